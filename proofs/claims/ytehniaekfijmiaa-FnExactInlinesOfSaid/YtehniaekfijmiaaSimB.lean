/- A state of the model stands for an abstract state: slots, own objects, their blocks. -/
import Derived.Test.YtehniaekfijmiaaSimA
namespace Go.Sim
open Go.RowKit
def blk : Value → Option Nat
  | .slice (some a) _ _ => some a.block
  | .pointer (some a) => some a.block
  | .map (some b) => some b
  | _ => none
def keyV : Tr → Value
  | .int k n => .int k n
  | .bool b => .bool b
  | .str s => .string ⟨s.toArray⟩
  | .lst _ _ => undef
def entV (p : Tr × Int) : Value × Value := (keyV p.1, .int .i64 p.2)
def keyFit : Option IntKind → Tr → Prop
  | some k, .int k' _ => k' = k
  | none, .str _ => True
  | _, _ => False
def okF (B : Nat) (ok : Nat → Prop) (fr : Bool) (b : Nat) : Prop := ok b ∧ (fr = true → B ≤ b)
def RC (B : Nat) (ρ : Rho) (w : World) (ok : Nat → Prop) (v : Value) : AC → Prop
  | .t x => RT w ok v x
  | .f x => RT w (okF B ok true) v x
  | .nils _ => v = .slice none 0 0
  | .nilp => v = .pointer none
  | .own o => (∃ A n c, ρ o = .slice A n c) ∧ v = ρ o
  | .sub o k => ∃ A n c, ρ o = .slice A n c ∧ v = .slice A k c ∧ k ≤ n
  | .ptr o off => ∃ b, ρ o = .pointer (some ⟨b, 0, none⟩) ∧ v = .pointer (some ⟨b, off, none⟩)
  | .opq => v.oneCell' = true ∧ v.cells = #[v]
  | .mpv o => (∃ b, ρ o = .map (some b)) ∧ v = ρ o
def RCs (B : Nat) (ρ : Rho) (w : World) (ok : Nat → Prop) : List Value → List AC → Prop
  | [], [] => True
  | v :: vs, c :: cs => RC B ρ w ok v c ∧ RCs B ρ w ok vs cs
  | _, _ => False
def RR (B : Nat) (ρ : Rho) (w : World) (ok : Nat → Prop) (v : Value) : AR → Prop
  | .c x => RC B ρ w ok v x
  | .agg cs => ∃ us, v = .agg us ∧ RCs B ρ w ok us.toList cs
def RRs (B : Nat) (ρ : Rho) (w : World) (ok : Nat → Prop) : List Value → List AR → Prop
  | [], [] => True
  | v :: vs, c :: cs => RR B ρ w ok v c ∧ RRs B ρ w ok vs cs
  | _, _ => False
def RV (B : Nat) (ρ : Rho) (w : World) (ok : Nat → Prop) (v : Value) : AV → Prop
  | .r x => RR B ρ w ok v x
  | .tup xs => ∃ us, v = .tuple us ∧ RRs B ρ w ok us.toList xs
  | .el o sz i off => ∃ b n c, ρ o = .slice (some ⟨b, 0, none⟩) n c ∧ i < n ∧ v = .pointer (some ⟨b, i * sz + off, none⟩)
  | .ro fr row off => ∃ (a : Addr) (us : List Value), v = .pointer (some (a.add off)) ∧ okF B ok fr a.block ∧ us.length = row.length ∧ (∀ (p : Nat) (u : Value), us[p]? = some u → w.cell? (a.add p) = some u) ∧ RTs w (okF B ok fr) us row
  | .unk => True
def RD (w : World) (ok F : Nat → Prop) (v : Value) : DC → Prop
  | .t x => RT w ok v x
  | .d x => DT w F v x
def holeAt (sz : Nat) : Option (Nat × Nat × Id) → Nat → Option Id
  | some (i, off, n), p => if p = i * sz + off then some n else none
  | none, _ => none
def RDs (ρ : Rho) (w : World) (ok : Nat → Prop) (sz : Nat) (hole : Option (Nat × Nat × Id)) (Fp : Nat → Nat → Prop) (us : List Value) (cs : List DC) : Prop :=
  us.length = cs.length ∧ ∀ (p : Nat) (v : Value) (c : DC), us[p]? = some v → cs[p]? = some c → (match holeAt sz hole p with
    | some n => v = ρ n ∧ v.oneCell' = true ∧ v.cells = #[v]
    | none => RD w ok (Fp p) v c)
def RO (B : Nat) (ρ : Rho) (w : World) (ok : Nat → Prop) (o : Id) : AO → Prop
  | .arr fr sz rows => (∀ r ∈ rows, r.length = sz) ∧
      ((ρ o = .slice none 0 0 ∧ rows = []) ∨
       ∃ b cap cur e fz, ρ o = .slice (some ⟨b, 0, none⟩) rows.length cap ∧ w.heap[b]? = some (.cells cur e fz) ∧ unfrozen cur.size fz ∧ rows.length ≤ cap ∧ cap ≤ maxLen ∧ cur.size = cap * sz ∧
        RTs w (okF B ok fr) (cur.toList.take (rows.length * sz)) rows.flatten ∧ (fr = true → B ≤ b))
  | .box cells => ∃ b cur t fz, ρ o = .pointer (some ⟨b, 0, none⟩) ∧ w.heap[b]? = some (.cells cur t fz) ∧ unfrozen cur.size fz ∧ RCs B ρ w ok cur.toList cells
  | .mp kk es => ∃ b ents clock, ρ o = .map (some b) ∧ w.heap[b]? = some (.map ents clock) ∧ ents.toList.map (fun e => (e.key, e.val)) = es.map entV ∧ ∀ p ∈ es, keyFit kk p.1
  | .dar sz rows hole => (∀ r ∈ rows, r.length = sz) ∧
      ((ρ o = .slice none 0 0 ∧ rows = [] ∧ hole = none) ∨
       ∃ b cap cur e fz Fp, ρ o = .slice (some ⟨b, 0, none⟩) rows.length cap ∧ w.heap[b]? = some (.cells cur e fz) ∧ unfrozen cur.size fz ∧ rows.length ≤ cap ∧ cap ≤ maxLen ∧ cur.size = cap * sz ∧
        (∀ p c, Fp p c → ρ.fp o c ∧ c ≠ b) ∧ (∀ p q c, p ≠ q → Fp p c → ¬ Fp q c) ∧ RDs ρ w ok sz hole Fp (cur.toList.take (rows.length * sz)) rows.flatten)
def Own (ρ : Rho) (o : Id) (b : Nat) : Prop := blk (ρ o) = some b ∨ ρ.fp o b
def AC.ids : AC → List Id
  | .own o => [o]
  | .sub o _ => [o]
  | .ptr o _ => [o]
  | .mpv o => [o]
  | _ => []
def AR.ids : AR → List Id
  | .c x => x.ids
  | .agg cs => cs.flatMap AC.ids
def AV.ids : AV → List Id
  | .r x => x.ids
  | .tup xs => xs.flatMap AR.ids
  | .el o _ _ _ => [o]
  | _ => []
def AO.ids : AO → List Id
  | .arr _ _ _ => []
  | .mp _ _ => []
  | .dar _ _ hole => (match hole with | some (_, _, n) => [n] | none => [])
  | .box cells => cells.flatMap AC.ids
section
variable {B : Nat} {ρ ρ' : Rho} {w w' : World} {ok ok' : Nat → Prop}
theorem okF_keep {fr : Bool} (hk : ∀ b, ok b → w'.heap[b]? = w.heap[b]? ∧ ok' b) : ∀ b, okF B ok fr b → w'.heap[b]? = w.heap[b]? ∧ okF B ok' fr b :=
  fun b hb => ⟨(hk b hb.1).1, (hk b hb.1).2, hb.2⟩
theorem okF_weak {fr fr' : Bool} (h : fr' = true → fr = true) : ∀ b, okF B ok fr b → w.heap[b]? = w.heap[b]? ∧ okF B ok fr' b := fun b hb => ⟨rfl, hb.1, fun e => hb.2 (h e)⟩
theorem okF_drop {fr : Bool} : ∀ b, okF B ok fr b → w.heap[b]? = w.heap[b]? ∧ ok b := fun b hb => ⟨rfl, hb.1⟩
theorem RC.keep {v : Value} {x : AC} (h : RC B ρ w ok v x) (hk : ∀ b, ok b → w'.heap[b]? = w.heap[b]? ∧ ok' b) (hρ : ∀ o ∈ x.ids, ρ' o = ρ o) : RC B ρ' w' ok' v x := by
  cases x with
  | t x => exact RT.keep h hk
  | f x => exact RT.keep h (okF_keep hk)
  | nils n => exact h
  | nilp => exact h
  | own o => rw [RC, hρ o (by simp [AC.ids])]; exact h
  | sub o k => rw [RC, hρ o (by simp [AC.ids])]; exact h
  | ptr o k => rw [RC, hρ o (by simp [AC.ids])]; exact h
  | opq => exact h
  | mpv o => rw [RC, hρ o (by simp [AC.ids])]; exact h
theorem RCs.keep : ∀ {vs : List Value} {xs : List AC}, RCs B ρ w ok vs xs → (∀ b, ok b → w'.heap[b]? = w.heap[b]? ∧ ok' b) → (∀ o ∈ xs.flatMap AC.ids, ρ' o = ρ o) → RCs B ρ' w' ok' vs xs
  | [], [], _, _, _ => trivial
  | v :: vs, x :: xs, h, hk, hρ => ⟨h.1.keep hk fun o ho => hρ o (by simp [ho]), RCs.keep h.2 hk fun o ho => hρ o (by simp only [List.flatMap_cons, List.mem_append]; exact .inr ho)⟩
  | [], _ :: _, h, _, _ => h.elim
  | _ :: _, [], h, _, _ => h.elim
theorem RR.keep {v : Value} {x : AR} (h : RR B ρ w ok v x) (hk : ∀ b, ok b → w'.heap[b]? = w.heap[b]? ∧ ok' b) (hρ : ∀ o ∈ x.ids, ρ' o = ρ o) : RR B ρ' w' ok' v x := by
  cases x with
  | c x => exact RC.keep h hk hρ
  | agg cs => obtain ⟨us, hv, h⟩ := h; exact ⟨us, hv, h.keep hk hρ⟩
theorem RRs.keep : ∀ {vs : List Value} {xs : List AR}, RRs B ρ w ok vs xs → (∀ b, ok b → w'.heap[b]? = w.heap[b]? ∧ ok' b) → (∀ o ∈ xs.flatMap AR.ids, ρ' o = ρ o) → RRs B ρ' w' ok' vs xs
  | [], [], _, _, _ => trivial
  | v :: vs, x :: xs, h, hk, hρ => ⟨h.1.keep hk fun o ho => hρ o (by simp [ho]), RRs.keep h.2 hk fun o ho => hρ o (by simp only [List.flatMap_cons, List.mem_append]; exact .inr ho)⟩
  | [], _ :: _, h, _, _ => h.elim
  | _ :: _, [], h, _, _ => h.elim
theorem RV.keep {v : Value} {x : AV} (h : RV B ρ w ok v x) (hk : ∀ b, ok b → w'.heap[b]? = w.heap[b]? ∧ ok' b) (hρ : ∀ o ∈ x.ids, ρ' o = ρ o) : RV B ρ' w' ok' v x := by
  cases x with
  | r x => exact RR.keep h hk hρ
  | tup xs => obtain ⟨us, hv, h⟩ := h; exact ⟨us, hv, h.keep hk hρ⟩
  | el o sz i off => rw [RV, hρ o (by simp [AV.ids])]; exact h
  | ro fr row off =>
    obtain ⟨a, us, hv, hok, hl, hc, ht⟩ := h
    exact ⟨a, us, hv, (okF_keep hk _ hok).2, hl, fun p u hu => (World.cell?_of_block (by rw [add_block]; exact (hk _ hok.1).1)).trans (hc p u hu), ht.keep (okF_keep hk)⟩
  | unk => trivial
theorem RD.keep {F F' : Nat → Prop} {v : Value} {c : DC} (h : RD w ok F v c) (hk : ∀ b, ok b → w'.heap[b]? = w.heap[b]? ∧ ok' b) (hF : ∀ b, F b → w'.heap[b]? = w.heap[b]? ∧ F' b) : RD w' ok' F' v c := by
  cases c with
  | t x => exact RT.keep h hk
  | d x => exact DT.keep h hF
theorem RDs.keep {sz : Nat} {hole : Option (Nat × Nat × Id)} {Fp Fp' : Nat → Nat → Prop} {us : List Value} {cs : List DC} (h : RDs ρ w ok sz hole Fp us cs) (hk : ∀ b, ok b → w'.heap[b]? = w.heap[b]? ∧ ok' b)
    (hF : ∀ p b, Fp p b → w'.heap[b]? = w.heap[b]? ∧ Fp' p b) (hρ : ∀ i off n, hole = some (i, off, n) → ρ' n = ρ n) : RDs ρ' w' ok' sz hole Fp' us cs := by
  refine ⟨h.1, fun p v c hv hc => ?_⟩
  have := h.2 p v c hv hc
  cases hh : holeAt sz hole p with
  | some n =>
    rw [hh] at this
    have hn : ρ' n = ρ n := by
      match hole, hh with
      | some (i, off, m), hh =>
        simp only [holeAt] at hh
        split at hh
        · injection hh with hh; subst hh; exact hρ i off _ rfl
        · cases hh
    exact ⟨this.1.trans hn.symm, this.2⟩
  | none => rw [hh] at this; exact this.keep hk (hF p)
theorem RO.keep {o : Id} {x : AO} (h : RO B ρ w ok o x) (hk : ∀ b, ok b → w'.heap[b]? = w.heap[b]? ∧ ok' b) (hρ : ∀ o ∈ x.ids, ρ' o = ρ o) (ho : ρ' o = ρ o) (hf : ∀ b, ρ.fp o b → ρ'.fp o b) (hb : ∀ b, Own ρ o b → w'.heap[b]? = w.heap[b]?) : RO B ρ' w' ok' o x := by
  cases x with
  | arr fr sz rows =>
    obtain ⟨hu, h⟩ := h
    refine ⟨hu, ?_⟩
    rcases h with h | ⟨b, cap, cur, e, fz, h1, h2, h3, h4, h5, h6, h7, h8⟩
    · exact .inl (by rw [ho]; exact h)
    · exact .inr ⟨b, cap, cur, e, fz, by rw [ho]; exact h1, by rw [hb b (.inl (by rw [h1]; rfl))]; exact h2, h3, h4, h5, h6, h7.keep (okF_keep hk), h8⟩
  | box cells =>
    obtain ⟨b, cur, t, fz, h1, h2, h3, h4⟩ := h
    exact ⟨b, cur, t, fz, by rw [ho]; exact h1, by rw [hb b (.inl (by rw [h1]; rfl))]; exact h2, h3, h4.keep hk hρ⟩
  | mp kk es =>
    obtain ⟨b, ents, clock, h1, h2, h3⟩ := h
    exact ⟨b, ents, clock, by rw [ho]; exact h1, by rw [hb b (.inl (by rw [h1]; rfl))]; exact h2, h3⟩
  | dar sz rows hole =>
    obtain ⟨hu, h⟩ := h
    refine ⟨hu, ?_⟩
    rcases h with h | ⟨b, cap, cur, e, fz, Fp, h1, h2, h3, h4, h5, h6, h7, h8, h9⟩
    · exact .inl ⟨by rw [ho]; exact h.1, h.2⟩
    · refine .inr ⟨b, cap, cur, e, fz, Fp, by rw [ho]; exact h1, by rw [hb b (.inl (by rw [h1]; rfl))]; exact h2, h3, h4, h5, h6, fun p c hc => ⟨hf c (h7 p c hc).1, (h7 p c hc).2⟩, h8, h9.keep hk (fun p c hc => ⟨hb c (.inr (h7 p c hc).1), hc⟩) fun i off n e => hρ n (by subst e; simp [AO.ids])⟩
theorem RCs.length : ∀ {vs : List Value} {ts : List AC}, RCs B ρ w ok vs ts → vs.length = ts.length
  | [], [], _ => rfl
  | _ :: vs, _ :: ts, h => by simp [RCs.length (vs := vs) (ts := ts) h.2]
  | [], _ :: _, h => h.elim
  | _ :: _, [], h => h.elim
theorem RCs.get : ∀ {vs : List Value} {ts : List AC}, RCs B ρ w ok vs ts → ∀ (p : Nat) (t : AC), ts[p]? = some t → ∃ v, vs[p]? = some v ∧ RC B ρ w ok v t
  | [], [], _, p, t, ht => by simp at ht
  | v0 :: vs, t0 :: ts, h, 0, t, ht => by simp at ht; subst ht; exact ⟨v0, by simp, h.1⟩
  | v0 :: vs, t0 :: ts, h, p + 1, t, ht => by
    obtain ⟨v, h1, h2⟩ := RCs.get h.2 p t (by simpa using ht)
    exact ⟨v, by simpa using h1, h2⟩
  | [], _ :: _, h, _, _, _ => h.elim
  | _ :: _, [], h, _, _, _ => h.elim
theorem RCs.take : ∀ {vs : List Value} {ts : List AC} (n : Nat), RCs B ρ w ok vs ts → RCs B ρ w ok (vs.take n) (ts.take n)
  | _, _, 0, _ => by simp [RCs]
  | [], [], _ + 1, _ => trivial
  | _ :: _, _ :: _, n + 1, h => ⟨h.1, RCs.take n h.2⟩
  | [], _ :: _, _ + 1, h => h.elim
  | _ :: _, [], _ + 1, h => h.elim
theorem RCs.drop : ∀ {vs : List Value} {ts : List AC} (n : Nat), RCs B ρ w ok vs ts → RCs B ρ w ok (vs.drop n) (ts.drop n)
  | _, _, 0, h => h
  | [], [], _ + 1, _ => trivial
  | _ :: _, _ :: _, n + 1, h => RCs.drop n h.2
  | [], _ :: _, _ + 1, h => h.elim
  | _ :: _, [], _ + 1, h => h.elim
theorem RCs.set : ∀ {vs : List Value} {ts : List AC} (n : Nat) {v : Value} {t : AC}, RCs B ρ w ok vs ts → RC B ρ w ok v t → RCs B ρ w ok (vs.set n v) (ts.set n t)
  | [], [], _, _, _, _, _ => trivial
  | _ :: _, _ :: _, 0, _, _, h, h' => ⟨h', h.2⟩
  | _ :: _, _ :: _, n + 1, _, _, h, h' => ⟨h.1, RCs.set n h.2 h'⟩
  | [], _ :: _, _, _, _, h, _ => h.elim
  | _ :: _, [], _, _, _, h, _ => h.elim
theorem RCs.append : ∀ {vs vs' : List Value} {ts ts' : List AC}, RCs B ρ w ok vs ts → RCs B ρ w ok vs' ts' → RCs B ρ w ok (vs ++ vs') (ts ++ ts')
  | [], _, [], _, _, h' => h'
  | _ :: _, _, _ :: _, _, h, h' => ⟨h.1, RCs.append h.2 h'⟩
  | [], _, _ :: _, _, h, _ => h.elim
  | _ :: _, _, [], _, h, _ => h.elim
theorem RC.one {v : Value} {t : AC} (h : RC B ρ w ok v t) : v.oneCell' = true := by
  cases t with
  | t x => exact RT.one h
  | f x => exact RT.one h
  | nils => subst h; rfl
  | nilp => subst h; rfl
  | own o => obtain ⟨⟨A, n, c, e⟩, rfl⟩ := h; rw [e]; rfl
  | sub o k => obtain ⟨A, n, c, _, rfl, _⟩ := h; rfl
  | ptr o off => obtain ⟨b, _, rfl⟩ := h; rfl
  | opq => exact h.1
  | mpv o => obtain ⟨⟨b, e⟩, rfl⟩ := h; rw [e]; rfl
theorem RC.cells1 {v : Value} {t : AC} (h : RC B ρ w ok v t) : v.cells = #[v] := by
  cases t with
  | t x => exact RT.cells1 h
  | f x => exact RT.cells1 h
  | nils => subst h; rfl
  | nilp => subst h; rfl
  | own o => obtain ⟨⟨A, n, c, e⟩, rfl⟩ := h; rw [e]; rfl
  | sub o k => obtain ⟨A, n, c, _, rfl, _⟩ := h; rfl
  | ptr o off => obtain ⟨b, _, rfl⟩ := h; rfl
  | opq => exact h.2
  | mpv o => obtain ⟨⟨b, e⟩, rfl⟩ := h; rw [e]; rfl
theorem RCs.one : ∀ {vs : List Value} {ts : List AC}, RCs B ρ w ok vs ts → ∀ v ∈ vs, v.oneCell' = true
  | [], [], _, v, hv => by cases hv
  | v0 :: vs, t0 :: ts, h, v, hv => by
    rcases List.mem_cons.1 hv with rfl | hv
    · exact h.1.one
    · exact RCs.one h.2 v hv
  | [], _ :: _, h, _, _ => h.elim
  | _ :: _, [], h, _, _ => h.elim
def AR.cells : AR → List AC
  | .c x => [x]
  | .agg cs => cs
theorem RR.cells {v : Value} {x : AR} (h : RR B ρ w ok v x) : RCs B ρ w ok v.cells.toList x.cells := by
  cases x with
  | c x => have := RC.cells1 h; rw [this]; exact ⟨h, trivial⟩
  | agg cs => obtain ⟨us, rfl, h⟩ := h; exact h
end
structure Keep (B : Nat) (M : Nat → Prop) (w w' : World) : Prop where
  os : w'.os = w.os
  tape : w'.tape = w.tape
  output : w'.output = w.output
  size : w.heap.size ≤ w'.heap.size
  block : ∀ k, k < B → ¬ M k → w'.heap[k]? = w.heap[k]?
structure Start where
  w : World
  al : Nat → Prop
  fx : Id → Option Value
structure F_ where
  L : Nat → AV
  H : Id → Option AO
  U : Nat → Prop
def okB (ρ : Rho) (H : Id → Option AO) (w : World) (b : Nat) : Prop := (b < w.heap.size ∧ ρ.al b) ∧ ∀ o x, H o = some x → ¬ Own ρ o b
structure Conc (N B : Nat) (M : Nat → Prop) (w0 : Start) (ρ : Rho) (s : F_) (a : Act) (w : World) : Prop where
  size : a.tmps.size = N
  defers : a.defers = []
  slot : ∀ t, RV B ρ w (okB ρ s.H w) (a.tmps.getD t undef) (s.L t)
  obj : ∀ o x, s.H o = some x → RO B ρ w (okB ρ s.H w) o x
  sep : ∀ o o' x x' b, s.H o = some x → s.H o' = some x' → o ≠ o' → Own ρ o b → ¬ Own ρ o' b
  rng : ∀ o x b, s.H o = some x → Own ρ o b → b < w.heap.size ∧ (B ≤ b ∨ M b)
  keep : Keep B M w0.w w
  base : B ≤ w.heap.size
  alw : ∀ b, B ≤ b ∨ M b → ρ.al b
  cst : ρ.al = w0.al
  fix : ∀ o v, w0.fx o = some v → ρ o = v ∧ s.U o.1
  usedL : ∀ t o, o ∈ (s.L t).ids → s.U o.1
  usedH : ∀ o x, s.H o = some x → s.U o.1 ∧ ∀ o' ∈ x.ids, s.U o'.1
section
variable {N B : Nat} {M : Nat → Prop} {w0 : Start} {ρ : Rho} {s : F_} {a : Act} {w : World}
theorem Conc.congr {s' : F_} (h : Conc N B M w0 ρ s a w) (hL : ∀ t, s'.L t = s.L t) (hH : ∀ o, s'.H o = s.H o) (hU : ∀ n, s'.U n ↔ s.U n) : Conc N B M w0 ρ s' a w := by
  have e1 : s'.L = s.L := funext hL
  have e2 : s'.H = s.H := funext hH
  have e3 : s'.U = s.U := funext fun n => propext (hU n)
  obtain ⟨L, H, U⟩ := s
  obtain ⟨L', H', U'⟩ := s'
  simp only at e1 e2 e3
  subst e1; subst e2; subst e3
  exact h
structure Turn (D : Nat → Prop) (w w' : World) : Prop where
  os : w'.os = w.os
  tape : w'.tape = w.tape
  output : w'.output = w.output
  size : w.heap.size ≤ w'.heap.size
  block : ∀ k, k < w.heap.size → ¬ D k → w'.heap[k]? = w.heap[k]?
theorem Turn.refl (D : Nat → Prop) (w : World) : Turn D w w := ⟨rfl, rfl, rfl, Nat.le_refl _, fun _ _ _ => rfl⟩
theorem Turn.drew (D : Nat → Prop) (w : World) : Turn D w w.drew := ⟨rfl, rfl, rfl, Nat.le_refl _, fun _ _ _ => rfl⟩
theorem Turn.alloc (D : Nat → Prop) (w : World) (o : Obj) : Turn D w (w.alloc o) := ⟨rfl, rfl, rfl, by simp, fun k hk _ => Below.heap_alloc w o k hk⟩
theorem Turn.trans {D : Nat → Prop} {w w' w'' : World} (h : Turn D w w') (h' : Turn D w' w'') : Turn D w w'' :=
  ⟨h'.os.trans h.os, h'.tape.trans h.tape, h'.output.trans h.output, Nat.le_trans h.size h'.size, fun k hk hd => (h'.block k (Nat.lt_of_lt_of_le hk h.size) hd).trans (h.block k hk hd)⟩
theorem Turn.mono {D D' : Nat → Prop} {w w' : World} (h : Turn D w w') (hd : ∀ k, D k → D' k) : Turn D' w w' :=
  ⟨h.os, h.tape, h.output, h.size, fun k hk hn => h.block k hk fun hx => hn (hd k hx)⟩
theorem Turn.setCell (w : World) (p : Addr) (v : Value) : Turn (fun k => k = p.block) w (w.setCell p v) :=
  ⟨rfl, rfl, rfl, by simp [World.setCell], fun k _ hk => Below.heap_setCell w p v k hk⟩
theorem Conc.step (h : Conc N B M w0 ρ s a w) (D : Nat → Prop) (keys : List Id) {w' : World} {ρ' : Rho} {H' : Id → Option AO} {U' : Nat → Prop} {a' : Act} {L' : Nat → AV}
    (hT : Turn D w w') (hN : a'.tmps.size = N) (hd : a'.defers = [])
    (hρ : ∀ o, s.U o.1 → ρ' o = ρ o) (hfp : ∀ o x, o ∉ keys → s.H o = some x → ρ'.fp o = ρ.fp o) (hal : ρ'.al = ρ.al) (hH : ∀ o, o ∉ keys → H' o = s.H o) (hU : ∀ n, s.U n → U' n)
    (hD1 : ∀ b, okB ρ s.H w b → ¬ D b) (hD2 : ∀ o x b, s.H o = some x → o ∉ keys → Own ρ o b → ¬ D b)
    (hD3 : ∀ b, b < B → ¬ M b → ¬ D b)
    (hnew : ∀ o x b, o ∈ keys → H' o = some x → Own ρ' o b → b < w'.heap.size ∧ (B ≤ b ∨ M b) ∧ (w.heap.size ≤ b ∨ ∃ o' x', s.H o' = some x' ∧ o' ∈ keys ∧ Own ρ o' b))
    (hsep : ∀ o o' x x' b, o ∈ keys → o' ∈ keys → H' o = some x → H' o' = some x' → o ≠ o' → Own ρ' o b → ¬ Own ρ' o' b)
    (hobj : ∀ (hk : ∀ b, okB ρ s.H w b → w'.heap[b]? = w.heap[b]? ∧ okB ρ' H' w' b), ∀ o x, o ∈ keys → H' o = some x → RO B ρ' w' (okB ρ' H' w') o x ∧ U' o.1 ∧ ∀ o' ∈ x.ids, U' o'.1)
    (hslot : ∀ (hk : ∀ b, okB ρ s.H w b → w'.heap[b]? = w.heap[b]? ∧ okB ρ' H' w' b), ∀ t, (L' t = s.L t ∧ a'.tmps.getD t undef = a.tmps.getD t undef) ∨ (RV B ρ' w' (okB ρ' H' w') (a'.tmps.getD t undef) (L' t) ∧ ∀ o ∈ (L' t).ids, U' o.1)) :
    Conc N B M w0 ρ' ⟨L', H', U'⟩ a' w' := by
  have old : ∀ o x, o ∉ keys → H' o = some x → s.H o = some x ∧ ρ' o = ρ o ∧ ∀ b, Own ρ' o b ↔ Own ρ o b := fun o x hn ho => by
    rw [hH o hn] at ho
    have e := hρ o (h.usedH o x ho).1
    exact ⟨ho, e, fun b => by unfold Own; rw [e, hfp o x hn ho]⟩
  have hk : ∀ b, okB ρ s.H w b → w'.heap[b]? = w.heap[b]? ∧ okB ρ' H' w' b := by
    intro b hb
    refine ⟨hT.block b hb.1.1 (hD1 b hb), ⟨Nat.lt_of_lt_of_le hb.1.1 hT.size, by rw [hal]; exact hb.1.2⟩, fun o x ho he => ?_⟩
    by_cases hok : o ∈ keys
    · rcases (hnew o x b hok ho he).2.2 with h1 | ⟨o', x', h1, _, h3⟩
      · exact absurd hb.1.1 (by omega)
      · exact hb.2 o' x' h1 h3
    · obtain ⟨g1, _, g3⟩ := old o x hok ho
      exact hb.2 o x g1 ((g3 b).1 he)
  have cross : ∀ o o' x x' b, o ∈ keys → o' ∉ keys → H' o = some x → H' o' = some x' → Own ρ' o b → ¬ Own ρ' o' b := by
    intro o o' x x' b hk1 hk2 ho ho' he he'
    obtain ⟨g1, _, g2⟩ := old o' x' hk2 ho'
    rw [g2] at he'
    rcases (hnew o x b hk1 ho he).2.2 with h1 | ⟨o2, x2, h1, h2, h3⟩
    · exact absurd (h.rng o' x' b g1 he').1 (by omega)
    · exact h.sep o2 o' x2 x' b h1 g1 (fun e => hk2 (e ▸ h2)) h3 he'
  refine ⟨hN, hd, fun t => ?_, fun o x ho => ?_, fun o o' x x' b ho ho' hne he he' => ?_, fun o x b ho he => ?_, ?_, Nat.le_trans h.base hT.size, fun b hb => by rw [hal]; exact h.alw b hb, hal.trans h.cst, fun o v hv => ?_, fun t o ho => ?_, fun o x ho => ?_⟩
  · rcases hslot hk t with ⟨e1, e2⟩ | h1
    · simp only [e1, e2]
      exact (h.slot t).keep hk fun o ho => hρ o (h.usedL t o ho)
    · exact h1.1
  · by_cases hok : o ∈ keys
    · exact (hobj hk o x hok ho).1
    · obtain ⟨g1, g2, _⟩ := old o x hok ho
      refine (h.obj o x g1).keep hk (fun o' ho' => hρ o' ((h.usedH o x g1).2 o' ho')) g2 (fun b hb => by rw [hfp o x hok g1]; exact hb) fun b hb => ?_
      exact hT.block b (h.rng o x b g1 hb).1 (hD2 o x b g1 hok hb)
  · simp only at ho ho' he he'
    by_cases hk1 : o ∈ keys
    · by_cases hk2 : o' ∈ keys
      · exact hsep o o' x x' b hk1 hk2 ho ho' hne he he'
      · exact cross o o' x x' b hk1 hk2 ho ho' he he'
    · by_cases hk2 : o' ∈ keys
      · exact cross o' o x' x b hk2 hk1 ho' ho he' he
      · obtain ⟨g1, _, g2⟩ := old o x hk1 ho
        obtain ⟨g3, _, g4⟩ := old o' x' hk2 ho'
        rw [g2] at he
        rw [g4] at he'
        exact h.sep o o' x x' b g1 g3 hne he he'
  · simp only at ho he
    by_cases hk1 : o ∈ keys
    · exact ⟨(hnew o x b hk1 ho he).1, (hnew o x b hk1 ho he).2.1⟩
    · obtain ⟨g1, _, g2⟩ := old o x hk1 ho
      rw [g2] at he
      have := h.rng o x b g1 he
      exact ⟨Nat.lt_of_lt_of_le this.1 hT.size, this.2⟩
  · refine ⟨hT.os.trans h.keep.os, hT.tape.trans h.keep.tape, hT.output.trans h.keep.output, Nat.le_trans h.keep.size hT.size, fun k hkB hkM => ?_⟩
    exact (hT.block k (Nat.lt_of_lt_of_le hkB h.base) (hD3 k hkB hkM)).trans (h.keep.block k hkB hkM)
  · obtain ⟨h1, h2⟩ := h.fix o v hv
    exact ⟨(hρ o h2).trans h1, hU _ h2⟩
  · simp only at ho ⊢
    rcases hslot hk t with ⟨e1, _⟩ | h1
    · rw [e1] at ho; exact hU _ (h.usedL t o ho)
    · exact h1.2 o ho
  · simp only at ho ⊢
    by_cases hk1 : o ∈ keys
    · exact (hobj hk o x hk1 ho).2
    · obtain ⟨g1, _⟩ := old o x hk1 ho
      exact ⟨hU _ (h.usedH o x g1).1, fun o' ho' => hU _ ((h.usedH o x g1).2 o' ho')⟩
end
end Go.Sim
