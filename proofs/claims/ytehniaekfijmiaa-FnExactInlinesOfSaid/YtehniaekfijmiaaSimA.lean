/- The abstract values of the evaluator, and what it means that a value of the model stands for one. -/
import Derived.WalkKit
import Derived.Laws.IdiomCopy
import Derived.Orders
namespace Go.Sim
open Go.RowKit
inductive Tr where
  | int (k : IntKind) (n : Int)
  | bool (b : Bool)
  | str (s : List UInt8)
  | lst (sz : Nat) (rows : List (List Tr))
instance : Inhabited Tr := ⟨.bool false⟩
abbrev Id := Nat × Nat × Nat
inductive AC where
  | t (x : Tr)
  | f (x : Tr)
  | nils (sz : Nat)
  | nilp
  | own (o : Id)
  | sub (o : Id) (k : Nat)
  | ptr (o : Id) (off : Nat)
  | opq
  | mpv (o : Id)
inductive AR where
  | c (x : AC)
  | agg (cs : List AC)
inductive DC where
  | t (x : Tr)
  | d (x : Tr)
inductive AV where
  | r (x : AR)
  | tup (xs : List AR)
  | el (o : Id) (sz i off : Nat)
  | ro (fr : Bool) (row : List Tr) (off : Nat)
  | unk
inductive AO where
  | arr (fr : Bool) (sz : Nat) (rows : List (List Tr))
  | box (cells : List AC)
  | dar (sz : Nat) (rows : List (List DC)) (hole : Option (Nat × Nat × Id))
  | mp (kk : Option IntKind) (es : List (Tr × Int))
structure Rho where
  val : Id → Value
  fp : Id → Nat → Prop
  al : Nat → Prop
instance : CoeFun Rho (fun _ => Id → Value) := ⟨Rho.val⟩
theorem add_block (a : Addr) (n : Nat) : (a.add n).block = a.block := by unfold Addr.add; split <;> rfl
theorem add_add (a : Addr) (i j : Nat) : (a.add i).add j = a.add (i + j) := by
  unfold Addr.add
  by_cases hi : i = 0 <;> by_cases hj : j = 0 <;> simp [hi, hj, Nat.add_assoc]
theorem add_zero' (a : Addr) : a.add 0 = a := by simp [Addr.add]
theorem add_head (b i : Nat) : (⟨b, 0, none⟩ : Addr).add i = ⟨b, i, none⟩ := by unfold Addr.add; split <;> simp_all
theorem add_mid (b o i : Nat) : (⟨b, o, none⟩ : Addr).add i = ⟨b, o + i, none⟩ := by unfold Addr.add; split <;> simp_all
inductive RT (w : World) (ok : Nat → Prop) : Value → Tr → Prop where
  | int (k : IntKind) (n : Int) : RT w ok (.int k n) (.int k n)
  | bool (b : Bool) : RT w ok (.bool b) (.bool b)
  | str (s : List UInt8) : RT w ok (.string ⟨s.toArray⟩) (.str s)
  | emp (A : Option Addr) (c sz : Nat) (hc : c ≤ maxLen) : RT w ok (.slice A 0 c) (.lst sz [])
  | lst (ad : Addr) (n c sz : Nat) (rows : List (List Tr)) (us : List Value) (hn : rows.length = n) (hc : n ≤ c) (hm : c ≤ maxLen) (hu : ∀ r ∈ rows, r.length = sz)
      (hok : ok ad.block) (hl : us.length = rows.flatten.length) (hcell : ∀ (p : Nat) (v : Value), us[p]? = some v → w.cell? (ad.add p) = some v)
      (hrec : ∀ (p : Nat) (v : Value) (u : Tr), us[p]? = some v → rows.flatten[p]? = some u → RT w ok v u) : RT w ok (.slice (some ad) n c) (.lst sz rows)
def RTs (w : World) (ok : Nat → Prop) : List Value → List Tr → Prop
  | [], [] => True
  | v :: vs, t :: ts => RT w ok v t ∧ RTs w ok vs ts
  | _, _ => False
def unfrozen (n : Nat) (fz : Nat × Nat) : Prop := ∀ p, p < n → ¬ (fz.1 ≤ p ∧ p < fz.2)
inductive DT (w : World) : (Nat → Prop) → Value → Tr → Prop where
  | int (F : Nat → Prop) (k : IntKind) (n : Int) : DT w F (.int k n) (.int k n)
  | bool (F : Nat → Prop) (b : Bool) : DT w F (.bool b) (.bool b)
  | str (F : Nat → Prop) (s : List UInt8) : DT w F (.string ⟨s.toArray⟩) (.str s)
  | nil (F : Nat → Prop) (sz : Nat) : DT w F (.slice none 0 0) (.lst sz [])
  | arr (F : Nat → Prop) (b n cap sz : Nat) (cur : Array Value) (e : TypeId) (fz : Nat × Nat) (rows : List (List Tr)) (Fp : Nat → Nat → Prop) (hb : F b) (hh : w.heap[b]? = some (.cells cur e fz)) (hf : unfrozen cur.size fz)
      (hn : rows.length = n) (h1 : n ≤ cap) (h2 : cap ≤ maxLen) (h3 : cur.size = cap * sz) (hu : ∀ r ∈ rows, r.length = sz) (hl : (cur.toList.take (n * sz)).length = rows.flatten.length)
      (hp : ∀ p c, Fp p c → F c ∧ c ≠ b) (hd : ∀ p q c, p ≠ q → Fp p c → ¬ Fp q c)
      (hrec : ∀ (p : Nat) (v : Value) (u : Tr), (cur.toList.take (n * sz))[p]? = some v → rows.flatten[p]? = some u → DT w (Fp p) v u) : DT w F (.slice (some ⟨b, 0, none⟩) n cap) (.lst sz rows)
theorem DT.keep {w w' : World} {F : Nat → Prop} {v : Value} {t : Tr} (h : DT w F v t) : ∀ {F' : Nat → Prop}, (∀ c, F c → w'.heap[c]? = w.heap[c]? ∧ F' c) → DT w' F' v t := by
  induction h with
  | int F k n => intro F' _; exact .int _ _ _
  | bool F b => intro F' _; exact .bool _ _
  | str F s => intro F' _; exact .str _ _
  | nil F sz => intro F' _; exact .nil _ _
  | arr F b n cap sz cur e fz rows Fp hb hh hf hn h1 h2 h3 hu hl hp hd hrec ih =>
    intro F' hk
    exact .arr F' b n cap sz cur e fz rows Fp (hk b hb).2 (by rw [(hk b hb).1]; exact hh) hf hn h1 h2 h3 hu hl (fun p c hc => ⟨(hk c (hp p c hc).1).2, (hp p c hc).2⟩) hd fun p v u hv hu' => ih p v u hv hu' fun c hc => ⟨(hk c (hp p c hc).1).1, hc⟩
theorem DT.mono {w : World} {F F' : Nat → Prop} {v : Value} {t : Tr} (h : DT w F v t) (hk : ∀ c, F c → F' c) : DT w F' v t := h.keep fun c hc => ⟨rfl, hk c hc⟩
theorem DT.one {w : World} {F : Nat → Prop} {v : Value} {t : Tr} (h : DT w F v t) : v.oneCell' = true := by cases h <;> rfl
theorem DT.cells1 {w : World} {F : Nat → Prop} {v : Value} {t : Tr} (h : DT w F v t) : v.cells = #[v] := by cases h <;> rfl
theorem DT.toRT {w : World} {ok : Nat → Prop} {F : Nat → Prop} {v : Value} {t : Tr} (h : DT w F v t) : (∀ c, F c → ok c) → RT w ok v t := by
  induction h with
  | int F k n => intro _; exact .int _ _
  | bool F b => intro _; exact .bool _
  | str F s => intro _; exact .str _
  | nil F sz => intro _; exact .emp _ _ _ (Nat.zero_le _)
  | arr F b n cap sz cur e fz rows Fp hb hh hf hn h1 h2 h3 hu hl hp hd hrec ih =>
    intro hk
    refine .lst _ _ _ _ _ (cur.toList.take (n * sz)) hn h1 h2 hu (hk b hb) hl (fun p v hv => ?_) fun p v u hv hu' => ih p v u hv hu' fun c hc => hk c (hp p c hc).1
    have : (⟨b, 0, none⟩ : Addr).add p = ⟨b, p, none⟩ := by unfold Addr.add; split <;> simp_all
    rw [this, cell_of_row w b p cur e fz hh]
    rw [List.getElem?_take] at hv
    split at hv
    · simpa using hv
    · cases hv
section
variable {w w' : World} {ok ok' : Nat → Prop}
theorem RTs.length : ∀ {vs : List Value} {ts : List Tr}, RTs w ok vs ts → vs.length = ts.length
  | [], [], _ => rfl
  | _ :: _, _ :: _, h => by simp [RTs.length h.2]
  | [], _ :: _, h => h.elim
  | _ :: _, [], h => h.elim
theorem RTs.get : ∀ {vs : List Value} {ts : List Tr}, RTs w ok vs ts → ∀ (p : Nat) (v : Value) (t : Tr), vs[p]? = some v → ts[p]? = some t → RT w ok v t
  | [], [], _, p, v, t, hv, _ => by simp at hv
  | v0 :: vs, t0 :: ts, h, 0, v, t, hv, ht => by simp at hv ht; subst hv; subst ht; exact h.1
  | v0 :: vs, t0 :: ts, h, p + 1, v, t, hv, ht => RTs.get h.2 p v t (by simpa using hv) (by simpa using ht)
  | [], _ :: _, h, _, _, _, _, _ => h.elim
  | _ :: _, [], h, _, _, _, _, _ => h.elim
theorem RTs.of : ∀ {vs : List Value} {ts : List Tr}, vs.length = ts.length → (∀ (p : Nat) (v : Value) (t : Tr), vs[p]? = some v → ts[p]? = some t → RT w ok v t) → RTs w ok vs ts
  | [], [], _, _ => trivial
  | v :: vs, t :: ts, hl, h => ⟨h 0 v t (by simp) (by simp), RTs.of (by simpa using hl) fun p v t hv ht => h (p + 1) v t (by simpa using hv) (by simpa using ht)⟩
  | [], _ :: _, hl, _ => by simp at hl
  | _ :: _, [], hl, _ => by simp at hl
theorem RTs.append : ∀ {vs vs' : List Value} {ts ts' : List Tr}, RTs w ok vs ts → RTs w ok vs' ts' → RTs w ok (vs ++ vs') (ts ++ ts')
  | [], _, [], _, _, h' => h'
  | _ :: _, _, _ :: _, _, h, h' => ⟨h.1, RTs.append h.2 h'⟩
  | [], _, _ :: _, _, h, _ => h.elim
  | _ :: _, _, [], _, h, _ => h.elim
theorem RTs.take : ∀ {vs : List Value} {ts : List Tr} (n : Nat), RTs w ok vs ts → RTs w ok (vs.take n) (ts.take n)
  | _, _, 0, _ => by simp [RTs]
  | [], [], _ + 1, _ => trivial
  | _ :: _, _ :: _, n + 1, h => ⟨h.1, RTs.take n h.2⟩
  | [], _ :: _, _ + 1, h => h.elim
  | _ :: _, [], _ + 1, h => h.elim
theorem RTs.drop : ∀ {vs : List Value} {ts : List Tr} (n : Nat), RTs w ok vs ts → RTs w ok (vs.drop n) (ts.drop n)
  | _, _, 0, h => h
  | [], [], _ + 1, _ => trivial
  | _ :: _, _ :: _, n + 1, h => RTs.drop n h.2
  | [], _ :: _, _ + 1, h => h.elim
  | _ :: _, [], _ + 1, h => h.elim
theorem RTs.set : ∀ {vs : List Value} {ts : List Tr} (n : Nat) {v : Value} {t : Tr}, RTs w ok vs ts → RT w ok v t → RTs w ok (vs.set n v) (ts.set n t)
  | [], [], _, _, _, _, _ => trivial
  | _ :: _, _ :: _, 0, _, _, h, h' => ⟨h', h.2⟩
  | _ :: _, _ :: _, n + 1, _, _, h, h' => ⟨h.1, RTs.set n h.2 h'⟩
  | [], _ :: _, _, _, _, h, _ => h.elim
  | _ :: _, [], _, _, _, h, _ => h.elim
theorem RT.one {v : Value} {t : Tr} (h : RT w ok v t) : v.oneCell' = true := by cases h <;> rfl
theorem RT.cells1 {v : Value} {t : Tr} (h : RT w ok v t) : v.cells = #[v] := by cases h <;> rfl
theorem RTs.one {vs : List Value} {ts : List Tr} (h : RTs w ok vs ts) : ∀ v ∈ vs, v.oneCell' = true := by
  intro v hv
  obtain ⟨p, hp⟩ := List.getElem?_of_mem hv
  have hl := h.length
  have : p < vs.length := by
    rcases Nat.lt_or_ge p vs.length with h | h
    · exact h
    · rw [List.getElem?_eq_none h] at hp; cases hp
  exact (h.get p v (ts[p]'(by omega)) hp (List.getElem?_eq_getElem (by omega))).one
theorem RT.keep {v : Value} {t : Tr} (h : RT w ok v t) (hk : ∀ b, ok b → w'.heap[b]? = w.heap[b]? ∧ ok' b) : RT w' ok' v t := by
  induction h with
  | int k n => exact .int k n
  | bool b => exact .bool b
  | str s => exact .str s
  | emp A c sz hc => exact .emp A c sz hc
  | lst ad n c sz rows us hn hc hm hu hok hl hcell hrec ih =>
    exact .lst ad n c sz rows us hn hc hm hu (hk _ hok).2 hl (fun p v hv => (World.cell?_of_block (by rw [add_block]; exact (hk _ hok).1)).trans (hcell p v hv)) ih
theorem RTs.keep {vs : List Value} {ts : List Tr} (h : RTs w ok vs ts) (hk : ∀ b, ok b → w'.heap[b]? = w.heap[b]? ∧ ok' b) : RTs w' ok' vs ts :=
  RTs.of h.length fun p v t hv ht => (h.get p v t hv ht).keep hk
theorem RT.slice_inv {v : Value} {sz : Nat} {rows : List (List Tr)} (h : RT w ok v (.lst sz rows)) :
    ∃ A c, v = .slice A rows.length c ∧ rows.length ≤ c ∧ c ≤ maxLen ∧ (∀ r ∈ rows, r.length = sz) ∧
      (rows ≠ [] → ∃ ad us, A = some ad ∧ ok ad.block ∧ us.length = rows.flatten.length ∧ (∀ (p : Nat) (v : Value), us[p]? = some v → w.cell? (ad.add p) = some v) ∧ RTs w ok us rows.flatten) := by
  cases h with
  | emp A c sz hc => exact ⟨A, c, rfl, Nat.zero_le _, hc, by simp, fun h => absurd rfl h⟩
  | lst ad n c sz rows us hn hc hm hu hok hl hcell hrec => exact ⟨some ad, c, by rw [hn], by omega, hm, hu, fun _ => ⟨ad, us, rfl, hok, hl, hcell, RTs.of hl hrec⟩⟩
theorem flatten_drop {α : Type} (sz : Nat) : ∀ (rows : List (List α)) (i : Nat), (∀ r ∈ rows, r.length = sz) → i ≤ rows.length → rows.flatten.drop (i * sz) = (rows.drop i).flatten
  | rows, 0, _, _ => by simp
  | [], i + 1, _, h => by simp at h
  | r :: rows, i + 1, hu, h => by
    have hr : r.length = sz := hu r (by simp)
    have : (i + 1) * sz = r.length + i * sz := by rw [Nat.add_mul, hr]; omega
    rw [List.flatten_cons, this, List.drop_length_add_append, List.drop_succ_cons]
    exact flatten_drop sz rows i (fun r hr => hu r (by simp [hr])) (by simpa using h)
theorem flatten_take {α : Type} (sz : Nat) : ∀ (rows : List (List α)) (i : Nat), (∀ r ∈ rows, r.length = sz) → i ≤ rows.length → rows.flatten.take (i * sz) = (rows.take i).flatten
  | rows, 0, _, _ => by simp
  | [], i + 1, _, h => by simp at h
  | r :: rows, i + 1, hu, h => by
    have hr : r.length = sz := hu r (by simp)
    have : (i + 1) * sz = r.length + i * sz := by rw [Nat.add_mul, hr]; omega
    rw [List.flatten_cons, this, List.take_length_add_append, List.take_succ_cons, List.flatten_cons]
    rw [flatten_take sz rows i (fun r hr => hu r (by simp [hr])) (by simpa using h)]
theorem flatten_length {α : Type} (sz : Nat) : ∀ (rows : List (List α)), (∀ r ∈ rows, r.length = sz) → rows.flatten.length = rows.length * sz
  | [], _ => by simp
  | r :: rows, hu => by
    rw [List.flatten_cons, List.length_append, flatten_length sz rows (fun r hr => hu r (by simp [hr])), hu r (by simp), List.length_cons, Nat.add_mul]; omega
theorem flatten_set {α : Type} (sz : Nat) : ∀ (rows : List (List α)) (i off : Nat) (row : List α) (x : α), (∀ r ∈ rows, r.length = sz) → rows[i]? = some row → off < sz → (rows.set i (row.set off x)).flatten = rows.flatten.set (i * sz + off) x
  | [], i, off, row, x, _, h, _ => by simp at h
  | r :: rows, 0, off, row, x, hu, h, ho => by
    simp at h; subst h
    have hr : r.length = sz := hu r (by simp)
    simp only [List.set_cons_zero, List.flatten_cons, Nat.zero_mul, Nat.zero_add]
    rw [List.set_append_left _ _ (by omega)]
  | r :: rows, i + 1, off, row, x, hu, h, ho => by
    have hr : r.length = sz := hu r (by simp)
    simp only [List.set_cons_succ, List.flatten_cons]
    rw [flatten_set sz rows i off row x (fun r hr => hu r (by simp [hr])) (by simpa using h) ho, List.set_append_right _ _ (by rw [Nat.add_mul]; omega)]
    congr 2
    rw [Nat.add_mul]; omega
theorem flatten_get {α : Type} (sz : Nat) (rows : List (List α)) (i off : Nat) (row : List α) (hu : ∀ r ∈ rows, r.length = sz) (h : rows[i]? = some row) (ho : off < sz) : rows.flatten[i * sz + off]? = row[off]? := by
  have hi : i < rows.length := by
    rcases Nat.lt_or_ge i rows.length with h' | h'
    · exact h'
    · rw [List.getElem?_eq_none h'] at h; cases h
  have hd := flatten_drop sz rows i hu (by omega)
  rw [List.drop_eq_getElem_cons hi] at hd
  have hrow : rows[i] = row := by rw [List.getElem?_eq_getElem hi] at h; simpa using h
  rw [hrow, List.flatten_cons] at hd
  have hr : row.length = sz := hu row (List.mem_of_getElem? h)
  rw [← List.getElem?_drop, hd, List.getElem?_append_left (by omega)]
theorem RT.cut {ad : Option Addr} {n c sz : Nat} {rows : List (List Tr)} (h : RT w ok (.slice ad n c) (.lst sz rows)) (lo hi : Nat) (h1 : lo ≤ hi) (h2 : hi ≤ rows.length) :
    RT w ok (.slice (if c = lo then ad else ad.map (·.add (lo * sz))) (hi - lo) (c - lo)) (.lst sz ((rows.take hi).drop lo)) := by
  obtain ⟨A, c', he, hc, hm, hu, hne⟩ := h.slice_inv
  injection he with e1 e2 e3
  subst e1; subst e3
  by_cases hh : hi = lo
  · subst hh
    have : (rows.take hi).drop hi = [] := by simp
    rw [this, Nat.sub_self]
    exact .emp _ _ _ (by omega)
  · have hrows : rows ≠ [] := by intro e; subst e; simp at h2; omega
    obtain ⟨ad', us, rfl, hok, hl, hcell, hts⟩ := hne hrows
    rw [if_neg (by omega)]
    have hfl := flatten_length sz rows hu
    have hut : ∀ r ∈ rows.take hi, r.length = sz := fun r hr => hu r (List.mem_of_mem_take hr)
    have hflat : ((rows.take hi).drop lo).flatten = (rows.flatten.take (hi * sz)).drop (lo * sz) := by
      rw [flatten_take sz rows hi hu h2, flatten_drop sz (rows.take hi) lo hut (by rw [List.length_take]; omega)]
    refine .lst _ _ _ _ _ ((us.take (hi * sz)).drop (lo * sz)) ?_ (by omega) (by omega) (fun r hr => hut r (List.mem_of_mem_drop hr)) (by show ok (Addr.add _ _).block; rw [add_block]; exact hok) ?_ ?_ ?_
    · rw [List.length_drop, List.length_take]; omega
    · rw [hflat, List.length_drop, List.length_drop, List.length_take, List.length_take, hl]
    · intro p v hv
      rw [List.getElem?_drop, List.getElem?_take] at hv
      split at hv
      · show w.cell? (Addr.add (Addr.add _ _) _) = _
        rw [add_add]; exact hcell _ v hv
      · cases hv
    · intro p v u hv hu'
      rw [hflat] at hu'
      exact ((hts.take (hi * sz)).drop (lo * sz)).get p v u hv hu'
theorem RT.row {ad : Option Addr} {n c sz : Nat} {rows : List (List Tr)} (h : RT w ok (.slice ad n c) (.lst sz rows)) (i : Nat) (row : List Tr) (hr : rows[i]? = some row) :
    ∃ a us, ad = some a ∧ ok a.block ∧ row.length = sz ∧ i < n ∧ us.length = row.length ∧ (∀ (p : Nat) (v : Value), us[p]? = some v → w.cell? ((a.add (i * sz)).add p) = some v) ∧ RTs w ok us row := by
  obtain ⟨A, c', he, hc, hm, hu, hne⟩ := h.slice_inv
  injection he with e1 e2 e3
  subst e1; subst e3
  have hi : i < rows.length := by
    rcases Nat.lt_or_ge i rows.length with h' | h'
    · exact h'
    · rw [List.getElem?_eq_none h'] at hr; cases hr
  obtain ⟨ad', us, rfl, hok, hl, hcell, hts⟩ := hne (by intro e; subst e; simp at hi)
  have hrl : row.length = sz := hu row (List.mem_of_getElem? hr)
  have hfl := flatten_length sz rows hu
  refine ⟨ad', (us.drop (i * sz)).take sz, rfl, hok, hrl, by omega, ?_, ?_, ?_⟩
  · rw [List.length_take, List.length_drop, hl, hfl]
    have hle := Nat.mul_le_mul_right sz hi
    rw [Nat.succ_mul] at hle
    omega
  · intro p v hv
    rw [List.getElem?_take] at hv
    split at hv
    · rw [List.getElem?_drop] at hv
      rw [add_add]; exact hcell _ v hv
    · cases hv
  · have hd := flatten_drop sz rows i hu (by omega)
    rw [List.drop_eq_getElem_cons hi] at hd
    have hrow : rows[i] = row := by rw [List.getElem?_eq_getElem hi] at hr; simpa using hr
    rw [hrow, List.flatten_cons] at hd
    have := (hts.drop (i * sz)).take sz
    rw [hd, List.take_append_of_le_length (by omega), List.take_of_length_le (show row.length ≤ sz by omega)] at this
    exact this
end
end Go.Sim
