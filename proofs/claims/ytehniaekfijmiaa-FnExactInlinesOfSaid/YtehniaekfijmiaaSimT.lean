/- Calls that are handed objects; every operation. -/
import Derived.Test.YtehniaekfijmiaaSimP
namespace Go.Sim
open Go.RowKit
section
variable {P : Program} {Γ : Env} {N B : Nat} {M : Nat → Prop} {w0 : Start} {ρ ρ' : Rho} {s : F_} {a : Act} {w w' : World} {o : Oper} {ev : Operand → AV} {H : Id → Option AO} {K : Eff → Prop} {KV : AV → Prop}
def ext (θ θ' : List (Id × Id)) : Prop := ∀ q o, lkI θ q = some o → lkI θ' q = some o
theorem ext.refl (θ : List (Id × Id)) : ext θ θ := fun _ _ h => h
theorem ext.trans {θ θ' θ'' : List (Id × Id)} (h : ext θ θ') (h' : ext θ' θ'') : ext θ θ'' := fun q o hq => h' q o (h q o hq)
theorem bif_id {α : Type} (x y : Id) (A C : α) : (bif idEq x y then A else C) = if x = y then A else C := by
  cases hb : idEq x y with
  | true => rw [idEq_iff] at hb; simp [hb]
  | false =>
    have : ¬ x = y := fun e => by rw [idEq_iff.2 e] at hb; cases hb
    simp [this]
theorem lkI_cons (i x : Id) (θ : List (Id × Id)) (o : Id) : lkI ((i, x) :: θ) o = if o = i then some x else lkI θ o := by rw [lkI, bif_id]
theorem bindI_spec {θ : List (Id × Id)} {q o : Id} {K : List (Id × Id) → Prop} (h : bindI θ q o K) : ∃ θ', K θ' ∧ ext θ θ' ∧ lkI θ' q = some o := by
  unfold bindI at h
  split at h
  · rename_i o' hq
    obtain ⟨h1, h2⟩ := h
    rw [idEq_iff] at h1
    exact ⟨θ, h2, ext.refl _, by rw [h1]; exact hq⟩
  · rename_i hq
    refine ⟨_, h, fun q' o' h' => ?_, by rw [lkI_cons, if_pos rfl]⟩
    rw [lkI_cons]
    split
    · rename_i e; subst e; rw [hq] at h'; cases h'
    · exact h'
def relC (H : Id → Option AO) (θ : List (Id × Id)) (bw : List Id) (x y : AC) : Prop :=
  (∃ o q, x = .own o ∧ y = .own q ∧ lkI θ q = some o) ∨ (∃ o q n, x = .ptr o n ∧ y = .ptr q n ∧ lkI θ q = some o) ∨ (x = .nilp ∧ y = .nilp) ∨ (∃ n m, x = .nils n ∧ y = .nils m) ∨ (∃ o q, x = .mpv o ∧ y = .mpv q ∧ lkI θ q = some o) ∨
    ∃ t, y = .t t ∧ acTree H x t ∧ ∀ o ∈ x.ids, o ∈ bw
theorem relC.mono {θ θ' : List (Id × Id)} {bw bw' : List Id} {x y : AC} (h : relC H θ bw x y) (h1 : ext θ θ') (h2 : ∀ o ∈ bw, o ∈ bw') : relC H θ' bw' x y := by
  rcases h with ⟨o, q, rfl, rfl, h⟩ | ⟨o, q, n, rfl, rfl, h⟩ | ⟨rfl, rfl⟩ | ⟨n, m, rfl, rfl⟩ | ⟨o, q, rfl, rfl, h⟩ | ⟨t, rfl, h3, h4⟩
  · exact .inl ⟨o, q, rfl, rfl, h1 _ _ h⟩
  · exact .inr (.inl ⟨o, q, n, rfl, rfl, h1 _ _ h⟩)
  · exact .inr (.inr (.inl ⟨rfl, rfl⟩))
  · exact .inr (.inr (.inr (.inl ⟨n, m, rfl, rfl⟩)))
  · exact .inr (.inr (.inr (.inr (.inl ⟨o, q, rfl, rfl, h1 _ _ h⟩))))
  · exact .inr (.inr (.inr (.inr (.inr ⟨t, rfl, h3, fun o ho => h2 o (h4 o ho)⟩))))
theorem maC_spec {θ : List (Id × Id)} {bw : List Id} {x y : AC} {K : List (Id × Id) → List Id → Prop} (h : maC H θ bw x y K) : ∃ θ' bw', K θ' bw' ∧ ext θ θ' ∧ (∀ o ∈ bw, o ∈ bw') ∧ relC H θ' bw' x y := by
  unfold maC at h
  split at h
  · obtain ⟨θ', h1, h2, h3⟩ := bindI_spec h
    exact ⟨θ', bw, h1, h2, fun _ h => h, .inl ⟨_, _, rfl, rfl, h3⟩⟩
  · obtain ⟨rfl, h⟩ := h
    obtain ⟨θ', h1, h2, h3⟩ := bindI_spec h
    exact ⟨θ', bw, h1, h2, fun _ h => h, .inr (.inl ⟨_, _, _, rfl, rfl, h3⟩)⟩
  · exact ⟨θ, bw, h, ext.refl _, fun _ h => h, .inr (.inr (.inl ⟨rfl, rfl⟩))⟩
  · obtain ⟨θ', h1, h2, h3⟩ := bindI_spec h
    exact ⟨θ', bw, h1, h2, fun _ h => h, .inr (.inr (.inr (.inr (.inl ⟨_, _, rfl, rfl, h3⟩))))⟩
  · exact ⟨θ, bw, h, ext.refl _, fun _ h => h, .inr (.inr (.inr (.inl ⟨_, _, rfl, rfl⟩)))⟩
  · exact ⟨θ, _, h.2, ext.refl _, fun o ho => List.mem_cons_of_mem _ ho, .inr (.inr (.inr (.inr (.inr ⟨_, rfl, h.1, fun o ho => by simp [AC.ids] at ho; simp [ho]⟩))))⟩
  · exact ⟨θ, _, h.2, ext.refl _, fun o ho => List.mem_cons_of_mem _ ho, .inr (.inr (.inr (.inr (.inr ⟨_, rfl, h.1, fun o ho => by simp [AC.ids] at ho; simp [ho]⟩))))⟩
  · rename_i h1 h2
    refine ⟨θ, _, h.2, ext.refl _, fun _ h => h, .inr (.inr (.inr (.inr (.inr ⟨_, rfl, h.1, fun o ho => ?_⟩))))⟩
    have ht := h.1
    cases x with
    | own o => exact absurd rfl (h1 o)
    | sub o k => exact absurd rfl (h2 o k)
    | ptr o k => exact ht.elim
    | t x => simp [AC.ids] at ho
    | f x => simp [AC.ids] at ho
    | nils n => simp [AC.ids] at ho
    | nilp => simp [AC.ids] at ho
    | opq => simp [AC.ids] at ho
    | mpv o => exact ht.elim
  · exact h.elim
def relCs (H : Id → Option AO) (θ : List (Id × Id)) (bw : List Id) : List AC → List AC → Prop
  | [], [] => True
  | x :: xs, y :: ys => relC H θ bw x y ∧ relCs H θ bw xs ys
  | _, _ => False
theorem relCs.mono {θ θ' : List (Id × Id)} {bw bw' : List Id} : ∀ {xs ys : List AC}, relCs H θ bw xs ys → ext θ θ' → (∀ o ∈ bw, o ∈ bw') → relCs H θ' bw' xs ys
  | [], [], _, _, _ => trivial
  | _ :: _, _ :: _, h, h1, h2 => ⟨h.1.mono h1 h2, relCs.mono h.2 h1 h2⟩
  | [], _ :: _, h, _, _ => h.elim
  | _ :: _, [], h, _, _ => h.elim
theorem maCs_spec : ∀ {xs ys : List AC} {θ : List (Id × Id)} {bw : List Id} {K : List (Id × Id) → List Id → Prop}, maCs H θ bw xs ys K → ∃ θ' bw', K θ' bw' ∧ ext θ θ' ∧ (∀ o ∈ bw, o ∈ bw') ∧ relCs H θ' bw' xs ys
  | [], [], _, _, _, h => ⟨_, _, h, ext.refl _, fun _ h => h, trivial⟩
  | x :: xs, y :: ys, _, _, _, h => by
    obtain ⟨θ1, bw1, h1, h2, h3, h4⟩ := maC_spec h
    obtain ⟨θ2, bw2, h5, h6, h7, h8⟩ := maCs_spec h1
    exact ⟨θ2, bw2, h5, h2.trans h6, fun o ho => h7 o (h3 o ho), h4.mono h6 h7, h8⟩
  | [], _ :: _, _, _, _, h => h.elim
  | _ :: _, [], _, _, _, h => h.elim
def relV (H : Id → Option AO) (θ : List (Id × Id)) (bw : List Id) : AV → AV → Prop
  | .r (.c x), .r (.c y) => relC H θ bw x y
  | .r (.agg xs), .r (.agg ys) => relCs H θ bw xs ys
  | _, _ => False
theorem relV.mono {θ θ' : List (Id × Id)} {bw bw' : List Id} {x y : AV} (h : relV H θ bw x y) (h1 : ext θ θ') (h2 : ∀ o ∈ bw, o ∈ bw') : relV H θ' bw' x y := by
  unfold relV at h ⊢
  split at h
  · exact relC.mono h h1 h2
  · exact relCs.mono h h1 h2
  · exact h.elim
theorem maV_spec {θ : List (Id × Id)} {bw : List Id} {x y : AV} {K : List (Id × Id) → List Id → Prop} (h : maV H θ bw x y K) : ∃ θ' bw', K θ' bw' ∧ ext θ θ' ∧ (∀ o ∈ bw, o ∈ bw') ∧ relV H θ' bw' x y := by
  unfold maV at h
  split at h
  · exact maC_spec h
  · exact maCs_spec h
  · exact h.elim
def relVs (H : Id → Option AO) (θ : List (Id × Id)) (bw : List Id) : List AV → List AV → Prop
  | [], [] => True
  | x :: xs, y :: ys => relV H θ bw x y ∧ relVs H θ bw xs ys
  | _, _ => False
theorem relVs.mono {θ θ' : List (Id × Id)} {bw bw' : List Id} : ∀ {xs ys : List AV}, relVs H θ bw xs ys → ext θ θ' → (∀ o ∈ bw, o ∈ bw') → relVs H θ' bw' xs ys
  | [], [], _, _, _ => trivial
  | _ :: _, _ :: _, h, h1, h2 => ⟨h.1.mono h1 h2, relVs.mono h.2 h1 h2⟩
  | [], _ :: _, h, _, _ => h.elim
  | _ :: _, [], h, _, _ => h.elim
theorem maVs_spec : ∀ {xs ys : List AV} {θ : List (Id × Id)} {bw : List Id} {K : List (Id × Id) → List Id → Prop}, maVs H θ bw xs ys K → ∃ θ' bw', K θ' bw' ∧ ext θ θ' ∧ (∀ o ∈ bw, o ∈ bw') ∧ relVs H θ' bw' xs ys
  | [], [], _, _, _, h => ⟨_, _, h, ext.refl _, fun _ h => h, trivial⟩
  | x :: xs, y :: ys, _, _, _, h => by
    obtain ⟨θ1, bw1, h1, h2, h3, h4⟩ := maV_spec h
    obtain ⟨θ2, bw2, h5, h6, h7, h8⟩ := maVs_spec h1
    exact ⟨θ2, bw2, h5, h2.trans h6, fun o ho => h7 o (h3 o ho), h4.mono h6 h7, h8⟩
  | [], _ :: _, _, _, _, h => h.elim
  | _ :: _, [], _, _, _, h => h.elim
def relO (H : Id → Option AO) (θ : List (Id × Id)) (bw : List Id) (x y : AO) : Prop :=
  (∃ cs ds, x = .box cs ∧ y = .box ds ∧ relCs H θ bw cs ds) ∨ (∃ fr sz rows, x = .arr fr sz rows ∧ y = .arr false sz rows) ∨ (∃ sz rows, x = .dar sz rows none ∧ y = .dar sz rows none) ∨ ∃ kk es, x = .mp kk es ∧ y = .mp kk es
theorem relO.mono {θ θ' : List (Id × Id)} {bw bw' : List Id} {x y : AO} (h : relO H θ bw x y) (h1 : ext θ θ') (h2 : ∀ o ∈ bw, o ∈ bw') : relO H θ' bw' x y := by
  rcases h with ⟨cs, ds, rfl, rfl, h⟩ | h | h
  · exact .inl ⟨cs, ds, rfl, rfl, h.mono h1 h2⟩
  · exact .inr (.inl h)
  · exact .inr (.inr h)
theorem maO_spec : ∀ {l : List (Id × AO)} {θ : List (Id × Id)} {bw : List Id} {K : List (Id × Id) → List Id → Prop}, maO H θ bw l K → ∃ θ' bw', K θ' bw' ∧ ext θ θ' ∧ (∀ o ∈ bw, o ∈ bw') ∧ ∀ p ∈ l, ∃ o x, lkI θ' p.1 = some o ∧ H o = some x ∧ relO H θ' bw' x p.2
  | [], _, _, _, h => ⟨_, _, h, ext.refl _, fun _ h => h, by simp⟩
  | (q, y) :: l, θ, bw, K, h => by
    simp only [maO] at h
    split at h
    · rename_i o hq
      have one : ∀ {θ1 : List (Id × Id)} {bw1 : List Id} {x : AO}, maO H θ1 bw1 l K → ext θ θ1 → (∀ o ∈ bw, o ∈ bw1) → H o = some x → relO H θ1 bw1 x y →
          ∃ θ' bw', K θ' bw' ∧ ext θ θ' ∧ (∀ o ∈ bw, o ∈ bw') ∧ ∀ p ∈ (q, y) :: l, ∃ o x, lkI θ' p.1 = some o ∧ H o = some x ∧ relO H θ' bw' x p.2 := by
        intro θ1 bw1 x h1 h2 h3 h4 h5
        obtain ⟨θ2, bw2, k1, k2, k3, k4⟩ := maO_spec h1
        refine ⟨θ2, bw2, k1, h2.trans k2, fun o ho => k3 o (h3 o ho), fun p hp => ?_⟩
        rcases List.mem_cons.1 hp with rfl | hp
        · exact ⟨o, x, k2 _ _ (h2 _ _ hq), h4, h5.mono k2 k3⟩
        · exact k4 p hp
      split at h
      · rename_i cs hx
        split at h
        · rename_i ds
          obtain ⟨θ1, bw1, h1, h2, h3, h4⟩ := maCs_spec h
          exact one h1 h2 h3 hx (.inl ⟨cs, ds, rfl, rfl, h4⟩)
        · exact h.elim
      · rename_i fr sz rows hx
        split at h
        · rename_i fr' sz' rows'
          obtain ⟨rfl, rfl, rfl, h⟩ := h
          exact one h (ext.refl _) (fun _ h => h) hx (.inr (.inl ⟨fr, _, _, rfl, rfl⟩))
        · exact h.elim
      · rename_i sz rows hx
        split at h
        · obtain ⟨rfl, rfl, h⟩ := h
          exact one h (ext.refl _) (fun _ h => h) hx (.inr (.inr (.inl ⟨_, _, rfl, rfl⟩)))
        · exact h.elim
      · rename_i kk es hx
        split at h
        · obtain ⟨rfl, rfl, h⟩ := h
          exact one h (ext.refl _) (fun _ h => h) hx (.inr (.inr (.inr ⟨_, _, rfl, rfl⟩)))
        · exact h.elim
      · exact h.elim
    · exact h.elim
theorem lkH_mem {l : List (Id × AO)} {q : Id} {y : AO} (h : lkH l q = some y) : (q, y) ∈ l := by
  induction l with
  | nil => cases h
  | cons p l ih =>
    obtain ⟨i, x⟩ := p
    rw [lkH, bif_id] at h
    split at h
    · rename_i e; injection h with h; subst e; subst h; simp
    · exact List.mem_cons_of_mem _ (ih h)
theorem lkH_of {l : List (Id × AO)} (hn : (l.map (·.1)).Nodup) {q : Id} {y : AO} (h : (q, y) ∈ l) : lkH l q = some y := by
  induction l with
  | nil => cases h
  | cons p l ih =>
    obtain ⟨i, x⟩ := p
    rw [lkH, bif_id]
    simp only [List.map_cons, List.nodup_cons] at hn
    rcases List.mem_cons.1 h with h | h
    · injection h with h1 h2; subst h1; subst h2; simp
    · have : q ≠ i := fun e => hn.1 (by rw [← e]; exact List.mem_map.2 ⟨_, h, rfl⟩)
      rw [if_neg this]; exact ih hn.2 h
theorem lkH_isSome {l : List (Id × AO)} {q : Id} (h : q ∈ l.map (·.1)) : (lkH l q).isSome = true := by
  induction l with
  | nil => cases h
  | cons p l ih =>
    obtain ⟨i, x⟩ := p
    rw [lkH, bif_id]
    split
    · rfl
    · rename_i hne
      simp only [List.map_cons, List.mem_cons] at h
      exact ih (h.resolve_left hne)
theorem lkI_mem {θ : List (Id × Id)} {q o : Id} (h : lkI θ q = some o) : (q, o) ∈ θ := by
  induction θ with
  | nil => cases h
  | cons p l ih =>
    obtain ⟨i, x⟩ := p
    rw [lkI_cons] at h
    split at h
    · rename_i e; injection h with h; subst e; subst h; simp
    · exact List.mem_cons_of_mem _ (ih h)
theorem lkI_of {θ : List (Id × Id)} {q : Id} (h : q ∈ θ.map (·.1)) : ∃ o, lkI θ q = some o := by
  induction θ with
  | nil => cases h
  | cons p l ih =>
    obtain ⟨i, x⟩ := p
    rw [lkI_cons]
    split
    · exact ⟨_, rfl⟩
    · rename_i hne
      simp only [List.map_cons, List.mem_cons] at h
      exact ih (h.resolve_left hne)
theorem nodup_inj {θ : List (Id × Id)} (hn : (θ.map (·.2)).Nodup) {q q' o : Id} (h : (q, o) ∈ θ) (h' : (q', o) ∈ θ) : q = q' := by
  induction θ with
  | nil => cases h
  | cons p l ih =>
    simp only [List.map_cons, List.nodup_cons] at hn
    rcases List.mem_cons.1 h with e | h1
    · rcases List.mem_cons.1 h' with e' | h1'
      · rw [← e] at e'; injection e' with e'; exact e'.symm
      · exact absurd (List.mem_map.2 ⟨_, h1', by rw [← e]⟩) hn.1
    · rcases List.mem_cons.1 h' with e' | h1'
      · exact absurd (List.mem_map.2 ⟨_, h1, by rw [← e']⟩) hn.1
      · exact ih hn.2 h1 h1'
theorem relC.congr {H' : Id → Option AO} {θ : List (Id × Id)} {bw : List Id} {x y : AC} (hH : ∀ o ∈ bw, H' o = H o) (h : relC H θ bw x y) : relC H' θ bw x y := by
  rcases h with h | h | h | h | h | ⟨t, rfl, h3, h4⟩
  · exact .inl h
  · exact .inr (.inl h)
  · exact .inr (.inr (.inl h))
  · exact .inr (.inr (.inr (.inl h)))
  · exact .inr (.inr (.inr (.inr (.inl h))))
  · exact .inr (.inr (.inr (.inr (.inr ⟨t, rfl, acTree_congr (fun o ho => hH o (h4 o ho)) h3, h4⟩))))
theorem relCs.congr {H' : Id → Option AO} {θ : List (Id × Id)} {bw : List Id} (hH : ∀ o ∈ bw, H' o = H o) : ∀ {xs ys : List AC}, relCs H θ bw xs ys → relCs H' θ bw xs ys
  | [], [], _ => trivial
  | _ :: _, _ :: _, h => ⟨h.1.congr hH, relCs.congr hH h.2⟩
  | [], _ :: _, h => h.elim
  | _ :: _, [], h => h.elim
theorem relV.congr {H' : Id → Option AO} {θ : List (Id × Id)} {bw : List Id} (hH : ∀ o ∈ bw, H' o = H o) {x y : AV} (h : relV H θ bw x y) : relV H' θ bw x y := by
  unfold relV at h ⊢
  split at h
  · exact relC.congr hH h
  · exact relCs.congr hH h
  · exact h.elim
theorem relVs.congr {H' : Id → Option AO} {θ : List (Id × Id)} {bw : List Id} (hH : ∀ o ∈ bw, H' o = H o) : ∀ {xs ys : List AV}, relVs H θ bw xs ys → relVs H' θ bw xs ys
  | [], [], _ => trivial
  | _ :: _, _ :: _, h => ⟨h.1.congr hH, relVs.congr hH h.2⟩
  | [], _ :: _, h => h.elim
  | _ :: _, [], h => h.elim
theorem relO.congr {H' : Id → Option AO} {θ : List (Id × Id)} {bw : List Id} (hH : ∀ o ∈ bw, H' o = H o) {x y : AO} (h : relO H θ bw x y) : relO H' θ bw x y := by
  rcases h with ⟨cs, ds, rfl, rfl, h⟩ | h
  · exact .inl ⟨cs, ds, rfl, rfl, h.congr hH⟩
  · exact .inr h
def rhoC (ρ : Rho) (θ : List (Id × Id)) (al : Nat → Prop) : Rho := ⟨fun q => match lkI θ q with | some o => ρ o | none => .tuple #[], fun q c => match lkI θ q with | some o => ρ.fp o c | none => False, al⟩
theorem rhoC_val {θ : List (Id × Id)} {al : Nat → Prop} {q o : Id} (h : lkI θ q = some o) : rhoC ρ θ al q = ρ o := by
  show (match lkI θ q with | some o => ρ o | none => .tuple #[]) = ρ o
  rw [h]
theorem rhoC_fp {θ : List (Id × Id)} {al : Nat → Prop} {q o : Id} (h : lkI θ q = some o) (c : Nat) : (rhoC ρ θ al).fp q c ↔ ρ.fp o c := by
  show (match lkI θ q with | some o => ρ.fp o c | none => False) ↔ _
  rw [h]
theorem rhoC_own {θ : List (Id × Id)} {al : Nat → Prop} {q o : Id} (h : lkI θ q = some o) (b : Nat) : Own (rhoC ρ θ al) q b ↔ Own ρ o b := by
  unfold Own; rw [rhoC_val h, rhoC_fp h]
structure Bound (s : F_) (θ : List (Id × Id)) (bw : List Id) (h0 : List (Id × AO)) : Prop where
  vals : (θ.map (·.2)).Nodup
  keys : ∀ p ∈ θ, p.1 ∈ h0.map (·.1) ∧ p.2 ∉ bw
  obj : ∀ p ∈ h0, ∃ o x, lkI θ p.1 = some o ∧ s.H o = some x ∧ relO s.H θ bw x p.2
theorem Bound.get {θ : List (Id × Id)} {bw : List Id} {h0 : List (Id × AO)} (hb : Bound s θ bw h0) {q o : Id} (h : lkI θ q = some o) : ∃ x, s.H o = some x := by
  obtain ⟨h1, _⟩ := hb.keys _ (lkI_mem h)
  obtain ⟨p, hp, e⟩ := List.mem_map.1 h1
  obtain ⟨o', x, g1, g2, _⟩ := hb.obj p hp
  simp only at e
  rw [e, h] at g1
  injection g1 with g1
  exact ⟨x, by rw [g1]; exact g2⟩
theorem Bound.inj {θ : List (Id × Id)} {bw : List Id} {h0 : List (Id × AO)} (hb : Bound s θ bw h0) {q q' o : Id} (h : lkI θ q = some o) (h' : lkI θ q' = some o) : q = q' := nodup_inj hb.vals (lkI_mem h) (lkI_mem h')
def alC (ρ : Rho) (s : F_) (w : World) (θ : List (Id × Id)) (bw : List Id) (b : Nat) : Prop :=
  okB ρ s.H w b ∨ (∃ o x, o ∈ bw ∧ s.H o = some x ∧ Own ρ o b) ∨ (∃ q o x, lkI θ q = some o ∧ s.H o = some x ∧ Own ρ o b) ∨ w.heap.size ≤ b
abbrev rhoK (ρ : Rho) (s : F_) (w : World) (θ : List (Id × Id)) (bw : List Id) : Rho := rhoC ρ θ (alC ρ s w θ bw)
theorem okC_old {θ : List (Id × Id)} {bw : List Id} {h0 : List (Id × AO)} (hb : Bound s θ bw h0) {b : Nat} (h : okB ρ s.H w b) : okB (rhoK ρ s w θ bw) (lkH h0) w b := by
  refine ⟨⟨h.1.1, .inl h⟩, fun q y hq ho => ?_⟩
  obtain ⟨o, x, g1, g2, _⟩ := hb.obj _ (lkH_mem hq)
  rw [rhoC_own g1] at ho
  exact h.2 o x g2 ho
theorem okC_lent (hc : Conc N B M w0 ρ s a w) {θ : List (Id × Id)} {bw : List Id} {h0 : List (Id × AO)} (hb : Bound s θ bw h0) {b : Nat} {o : Id} {x : AO} (h1 : o ∈ bw) (h2 : s.H o = some x) (h3 : Own ρ o b) : okB (rhoK ρ s w θ bw) (lkH h0) w b := by
  refine ⟨⟨(hc.rng o x b h2 h3).1, .inr (.inl ⟨o, x, h1, h2, h3⟩)⟩, fun q y hq ho => ?_⟩
  obtain ⟨o', x', g1, g2, _⟩ := hb.obj _ (lkH_mem hq)
  rw [rhoC_own g1] at ho
  have := (hb.keys _ (lkI_mem g1)).2
  exact hc.sep o o' x x' b h2 g2 (fun e => this (e ▸ h1)) h3 ho
theorem relC_ok (hc : Conc N B M w0 ρ s a w) {θ : List (Id × Id)} {bw : List Id} {h0 : List (Id × AO)} (hb : Bound s θ bw h0) {B' : Nat} {v : Value} {x y : AC} (h : relC s.H θ bw x y) (hv : RC B ρ w (okB ρ s.H w) v x) : RC B' (rhoK ρ s w θ bw) w (okB (rhoK ρ s w θ bw) (lkH h0) w) v y := by
  rcases h with ⟨o, q, rfl, rfl, h⟩ | ⟨o, q, n, rfl, rfl, h⟩ | ⟨rfl, rfl⟩ | ⟨n, m, rfl, rfl⟩ | ⟨o, q, rfl, rfl, h⟩ | ⟨t, rfl, h3, h4⟩
  · rw [RC, rhoC_val h]; exact hv
  · rw [RC, rhoC_val h]; exact hv
  · exact hv
  · exact hv
  · rw [RC, rhoC_val h]; exact hv
  · exact acTree_ok' hc (fun b hb' => okC_old hb hb') (fun q hq x b hx ho => okC_lent hc hb (h4 q hq) hx ho) hv h3
theorem relCs_ok (hc : Conc N B M w0 ρ s a w) {θ : List (Id × Id)} {bw : List Id} {h0 : List (Id × AO)} (hb : Bound s θ bw h0) {B' : Nat} : ∀ {vs : List Value} {xs ys : List AC}, relCs s.H θ bw xs ys → RCs B ρ w (okB ρ s.H w) vs xs → RCs B' (rhoK ρ s w θ bw) w (okB (rhoK ρ s w θ bw) (lkH h0) w) vs ys
  | [], [], [], _, _ => trivial
  | _ :: _, _ :: _, _ :: _, h, hv => ⟨relC_ok hc hb h.1 hv.1, relCs_ok hc hb h.2 hv.2⟩
  | [], _ :: _, _, _, hv => hv.elim
  | _ :: _, [], _, _, hv => hv.elim
  | [], [], _ :: _, h, _ => h.elim
  | _ :: _, _ :: _, [], h, _ => h.elim
theorem relV_ok (hc : Conc N B M w0 ρ s a w) {θ : List (Id × Id)} {bw : List Id} {h0 : List (Id × AO)} (hb : Bound s θ bw h0) {B' : Nat} {v : Value} {x y : AV} (h : relV s.H θ bw x y) (hv : RV B ρ w (okB ρ s.H w) v x) : RV B' (rhoK ρ s w θ bw) w (okB (rhoK ρ s w θ bw) (lkH h0) w) v y := by
  unfold relV at h
  split at h
  · exact relC_ok hc hb h hv
  · obtain ⟨us, e, hv⟩ := hv
    exact ⟨us, e, relCs_ok hc hb h hv⟩
  · exact h.elim
theorem relVs_ok (hc : Conc N B M w0 ρ s a w) {θ : List (Id × Id)} {bw : List Id} {h0 : List (Id × AO)} (hb : Bound s θ bw h0) {B' : Nat} : ∀ {xs : List Operand} {ys : List AV}, relVs s.H θ bw (xs.map ev) ys → (∀ x ∈ xs, evL s.L x = ev x) → RVs B' (rhoK ρ s w θ bw) w (okB (rhoK ρ s w θ bw) (lkH h0) w) (xs.map a.eval) ys
  | [], [], _, _ => trivial
  | x :: xs, y :: ys, h, hx => by
    refine ⟨relV_ok hc hb h.1 ?_, relVs_ok hc hb h.2 fun z hz => hx z (by simp [hz])⟩
    have := (hc.eval x).1
    rwa [hx x (by simp)] at this
  | [], _ :: _, h, _ => h.elim
  | _ :: _, [], h, _ => h.elim
theorem relO_ok (hc : Conc N B M w0 ρ s a w) {θ : List (Id × Id)} {bw : List Id} {h0 : List (Id × AO)} (hb : Bound s θ bw h0) {B' : Nat} {q o : Id} {x y : AO} (hq : lkI θ q = some o) (h : relO s.H θ bw x y) (hv : RO B ρ w (okB ρ s.H w) o x) : RO B' (rhoK ρ s w θ bw) w (okB (rhoK ρ s w θ bw) (lkH h0) w) q y := by
  rcases h with ⟨cs, ds, rfl, rfl, h⟩ | ⟨fr, sz, rows, rfl, rfl⟩ | ⟨sz, rows, rfl, rfl⟩ | ⟨kk, es, rfl, rfl⟩
  · obtain ⟨b, cur, t, fz, h1, h2, h3, h4⟩ := hv
    exact ⟨b, cur, t, fz, by rw [rhoC_val hq]; exact h1, h2, h3, relCs_ok hc hb h h4⟩
  · obtain ⟨hu, hv⟩ := hv
    refine ⟨hu, ?_⟩
    rcases hv with hv | ⟨b, cap, cur, e, fz, h1, h2, h3, h4, h5, h6, h7, h8⟩
    · exact .inl (by rw [rhoC_val hq]; exact hv)
    · exact .inr ⟨b, cap, cur, e, fz, by rw [rhoC_val hq]; exact h1, h2, h3, h4, h5, h6, h7.keep (fun c hc' => ⟨rfl, okC_old hb hc'.1, fun e => by cases e⟩), fun e => by cases e⟩
  · obtain ⟨hu, hv⟩ := hv
    refine ⟨hu, ?_⟩
    rcases hv with ⟨hv, h2⟩ | ⟨b, cap, cur, e, fz, Fp, h1, h2, h3, h4, h5, h6, h7, h8, h9⟩
    · exact .inl ⟨by rw [rhoC_val hq]; exact hv, h2⟩
    · exact .inr ⟨b, cap, cur, e, fz, Fp, by rw [rhoC_val hq]; exact h1, h2, h3, h4, h5, h6, fun p c hc' => ⟨(rhoC_fp hq c).2 (h7 p c hc').1, (h7 p c hc').2⟩, h8, h9.keep (fun c hc' => ⟨rfl, okC_old hb hc'⟩) (fun p c hc' => ⟨rfl, hc'⟩) fun _ _ _ e => by cases e⟩
  · obtain ⟨b, ents, clock, h1, h2, h3⟩ := hv
    exact ⟨b, ents, clock, by rw [rhoC_val hq]; exact h1, h2, h3⟩
theorem call_lies (hc : Conc N B M w0 ρ s a w) {θ : List (Id × Id)} {bw : List Id} {h0 : List (Id × AO)} (hb : Bound s θ bw h0) : Lies w.heap.size (rhoK ρ s w θ bw) w h0 := by
  refine ⟨fun q y hq => ?_, fun q q' y y' b hq hq' hne ho ho' => ?_, fun q y b hq ho => ?_⟩
  · obtain ⟨o, x, g1, g2, g3⟩ := hb.obj _ (lkH_mem hq)
    exact relO_ok hc hb g1 g3 (hc.obj o x g2)
  · obtain ⟨o, x, g1, g2, _⟩ := hb.obj _ (lkH_mem hq)
    obtain ⟨o', x', g1', g2', _⟩ := hb.obj _ (lkH_mem hq')
    rw [rhoC_own g1] at ho
    rw [rhoC_own g1'] at ho'
    exact hc.sep o o' x x' b g2 g2' (fun e => hne (hb.inj g1 (by rw [e]; exact g1'))) ho ho'
  · obtain ⟨o, x, g1, g2, _⟩ := hb.obj _ (lkH_mem hq)
    rw [rhoC_own g1] at ho
    exact (hc.rng o x b g2 ho).1
theorem call_ms {θ : List (Id × Id)} {bw : List Id} {h0 : List (Id × AO)} (hb : Bound s θ bw h0) {b : Nat} (h : Ms (rhoK ρ s w θ bw) h0 b) : ∃ q o x, lkI θ q = some o ∧ s.H o = some x ∧ Own ρ o b := by
  obtain ⟨q, y, hq, ho⟩ := h
  obtain ⟨o, x, g1, g2, _⟩ := hb.obj _ (lkH_mem hq)
  rw [rhoC_own g1] at ho
  exact ⟨q, o, x, g1, g2, ho⟩
def rhoN (ρ ρ2 : Rho) (θ : List (Id × Id)) (nm : Nat) : Rho :=
  ⟨fun o => if o.1 = nm then ρ2 (1, o.2) else ρ o, fun o c => (o.1 = nm ∧ ρ2.fp (1, o.2) c) ∨ (o.1 ≠ nm ∧ ((∃ q, lkI θ q = some o ∧ ρ2.fp q c) ∨ ((¬ ∃ q, lkI θ q = some o) ∧ ρ.fp o c))), ρ.al⟩
structure Back (B : Nat) (ρ ρ2 : Rho) (s : F_) (w w' : World) (θ : List (Id × Id)) (bw : List Id) (nm : Nat) (h0 h1 : List (Id × AO)) : Prop where
  bound : Bound s θ bw h0
  h0n : ∀ p ∈ h0, p.1.1 = 0
  h1n : (h1.map (·.1)).Nodup
  h1k : ∀ p ∈ h1, okN h0 p.1 = true ∧ noHole p.2 = true ∧ ∀ id ∈ p.2.ids, okN h0 id = true
  new : ¬ s.U nm
  used : ∀ o x, s.H o = some x → s.U o.1
  keep : ∀ o, (lkH h0 o).isSome = true → ρ2 o = rhoK ρ s w θ bw o
  al : ρ2.al = (rhoK ρ s w θ bw).al
  lies : Lies w.heap.size ρ2 w' h1
  own : ∀ o x b, lkH h1 o = some x → Own ρ2 o b → w.heap.size ≤ b ∨ Ms (rhoK ρ s w θ bw) h0 b
  size : w.heap.size ≤ w'.heap.size
  base : B ≤ w.heap.size
section
variable {ρ2 : Rho} {θ : List (Id × Id)} {bw : List Id} {nm : Nat} {h0 h1 : List (Id × AO)}
theorem Back.name (hk : Back B ρ ρ2 s w w' θ bw nm h0 h1) {q : Id} (hq : okN h0 q = true) : (∃ o x, lkI θ q = some o ∧ s.H o = some x ∧ o.1 ≠ nm ∧ reI θ nm q = o) ∨ (lkI θ q = none ∧ q.1 = 1 ∧ reI θ nm q = (nm, q.2)) := by
  cases h : lkI θ q with
  | some o =>
    obtain ⟨x, hx⟩ := hk.bound.get h
    exact .inl ⟨o, x, rfl, hx, fun e => hk.new (by rw [← e]; exact hk.used o x hx), by unfold reI; rw [h]⟩
  | none =>
    right
    refine ⟨rfl, ?_, by unfold reI; rw [h]⟩
    unfold okN at hq
    rw [Bool.or_eq_true, memI_iff] at hq
    rcases hq with hq | hq
    · obtain ⟨p, hp, e⟩ := List.mem_map.1 hq
      obtain ⟨o, x, g, _⟩ := hk.bound.obj p hp
      rw [e, h] at g; cases g
    · simpa using hq
theorem Back.val (hk : Back B ρ ρ2 s w w' θ bw nm h0 h1) {q : Id} (hq : okN h0 q = true) : rhoN ρ ρ2 θ nm (reI θ nm q) = ρ2 q := by
  rcases hk.name hq with ⟨o, x, g1, g2, g3, g4⟩ | ⟨g1, g2, g3⟩
  · rw [g4]
    show (if o.1 = nm then _ else ρ o) = _
    rw [if_neg g3, hk.keep q (lkH_isSome (hk.bound.keys _ (lkI_mem g1)).1), rhoC_val g1]
  · rw [g3]
    show (if nm = nm then ρ2 (1, q.2) else _) = _
    rw [if_pos rfl, ← g2]
theorem Back.fp (hk : Back B ρ ρ2 s w w' θ bw nm h0 h1) {q : Id} (hq : okN h0 q = true) (c : Nat) : (rhoN ρ ρ2 θ nm).fp (reI θ nm q) c ↔ ρ2.fp q c := by
  rcases hk.name hq with ⟨o, x, g1, g2, g3, g4⟩ | ⟨g1, g2, g3⟩
  · rw [g4]
    constructor
    · rintro (⟨e, _⟩ | ⟨_, ⟨q', e1, e2⟩ | ⟨e1, _⟩⟩)
      · exact absurd e g3
      · rw [hk.bound.inj g1 e1]; exact e2
      · exact absurd ⟨q, g1⟩ e1
    · exact fun h => .inr ⟨g3, .inl ⟨q, g1, h⟩⟩
  · rw [g3]
    constructor
    · rintro (⟨_, h⟩ | ⟨e, _⟩)
      · rw [← g2] at h; exact h
      · exact absurd rfl e
    · intro h; left; refine ⟨rfl, ?_⟩; rw [← g2]; exact h
theorem Back.owned (hk : Back B ρ ρ2 s w w' θ bw nm h0 h1) {q : Id} (hq : okN h0 q = true) (c : Nat) : Own (rhoN ρ ρ2 θ nm) (reI θ nm q) c ↔ Own ρ2 q c := by
  unfold Own; rw [hk.val hq, hk.fp hq]
theorem Back.inj (hk : Back B ρ ρ2 s w w' θ bw nm h0 h1) {q q' : Id} (hq : okN h0 q = true) (hq' : okN h0 q' = true) (e : reI θ nm q = reI θ nm q') : q = q' := by
  rcases hk.name hq with ⟨o, x, g1, g2, g3, g4⟩ | ⟨g1, g2, g3⟩ <;> rcases hk.name hq' with ⟨o', x', k1, k2, k3, k4⟩ | ⟨k1, k2, k3⟩
  · rw [g4, k4] at e; subst e; exact hk.bound.inj g1 k1
  · rw [g4, k3] at e; subst e; exact absurd rfl g3
  · rw [g3, k4] at e; subst e; exact absurd rfl k3
  · rw [g3, k3] at e
    have : q.2 = q'.2 := congrArg (·.2) e
    exact Prod.ext (g2.trans k2.symm) this
theorem Back.oldv (hk : Back B ρ ρ2 s w w' θ bw nm h0 h1) {o : Id} (ho : s.U o.1) : rhoN ρ ρ2 θ nm o = ρ o := if_neg fun e : o.1 = nm => hk.new (by rw [← e]; exact ho)
theorem Back.oldf (hk : Back B ρ ρ2 s w w' θ bw nm h0 h1) {o : Id} (ho : s.U o.1) (hn : o ∉ θ.map (·.2)) (c : Nat) : (rhoN ρ ρ2 θ nm).fp o c ↔ ρ.fp o c := by
  have h1 : o.1 ≠ nm := fun e => hk.new (by rw [← e]; exact ho)
  have h2 : ¬ ∃ q, lkI θ q = some o := fun ⟨q, h⟩ => hn (List.mem_map.2 ⟨_, lkI_mem h, rfl⟩)
  constructor
  · rintro (⟨e, _⟩ | ⟨_, h | ⟨_, h⟩⟩)
    · exact absurd e h1
    · exact absurd (h.elim fun q h => ⟨q, h.1⟩) h2
    · exact h
  · exact fun h => .inr ⟨h1, .inr ⟨h2, h⟩⟩
theorem usG_get (H : Id → Option AO) {o : Id} {x : AO} (h : updH H (usG θ nm h1) o = some x) : (∃ q y, (q, y) ∈ h1 ∧ o = reI θ nm q ∧ x = y.re θ nm) ∨ (o ∉ (θ.map (·.2)) ++ h1.map (fun p => reI θ nm p.1) ∧ H o = some x) := by
  rw [usG, updH_append] at h
  have h' : updH (updH H (θ.map fun p => (p.2, none))) ((h1.map fun p => (reI θ nm p.1, p.2.re θ nm)).map fun p => (p.1, some p.2)) o = some x := by rw [List.map_map]; exact h
  rcases updH_some _ _ o x h' with h2 | ⟨h2, h3⟩
  · obtain ⟨p, hp, e⟩ := List.mem_map.1 h2
    injection e with e1 e2
    exact .inl ⟨p.1, p.2, hp, e1.symm, e2.symm⟩
  · have h2' : o ∉ h1.map fun p => reI θ nm p.1 := by simpa [List.map_map] using h2
    have nonek : ∀ (l : List Id) (H : Id → Option AO), updH H (l.map fun r => (r, none)) o = some x → o ∉ l ∧ H o = some x := by
      intro l
      induction l with
      | nil => intro H h; exact ⟨by simp, h⟩
      | cons r l ih =>
        intro H h
        simp only [List.map_cons, updH] at h
        obtain ⟨g1, g2⟩ := ih _ h
        by_cases e : o = r
        · rw [if_pos e] at g2; cases g2
        · rw [if_neg e] at g2
          exact ⟨by simp [e, g1], g2⟩
    have h3' : updH H ((θ.map (·.2)).map fun r => (r, none)) o = some x := by rw [List.map_map]; exact h3
    obtain ⟨g1, g2⟩ := nonek _ _ h3'
    refine .inr ⟨fun hm => ?_, g2⟩
    rcases List.mem_append.1 hm with hm | hm
    · exact g1 hm
    · exact h2' hm
theorem Back.ok (hk : Back B ρ ρ2 s w w' θ bw nm h0 h1) (hc : Conc N B M w0 ρ s a w) {b : Nat} (hb : okB ρ2 (lkH h1) w' b) (hf : bw = [] ∨ w.heap.size ≤ b) : okB (rhoN ρ ρ2 θ nm) (updH s.H (usG θ nm h1)) w' b := by
  have hal : alC ρ s w θ bw b := by have := hb.1.2; rw [hk.al] at this; exact this
  have hfresh : w.heap.size ≤ b → ρ.al b := fun h => hc.alw b (.inl (Nat.le_trans hk.base h))
  have hlent : (∃ o x, o ∈ bw ∧ s.H o = some x ∧ Own ρ o b) → w.heap.size ≤ b := fun ⟨o, x, h1, h2, h3⟩ => by
    rcases hf with hf | hf
    · rw [hf] at h1; cases h1
    · exact hf
  refine ⟨⟨hb.1.1, ?_⟩, fun o x ho he => ?_⟩
  · show ρ.al b
    rcases hal with h | h | ⟨q, o, x, _, h2, h3⟩ | h
    · exact h.1.2
    · exact hfresh (hlent h)
    · exact hc.alw b (hc.rng o x b h2 h3).2
    · exact hfresh h
  · rcases usG_get s.H ho with ⟨q, y, g1, rfl, _⟩ | ⟨g1, g2⟩
    · rw [hk.owned (hk.h1k _ g1).1] at he
      exact hb.2 q y (lkH_of hk.h1n g1) he
    · have hU := hk.used o x g2
      have he' : Own ρ o b := by
        unfold Own at he ⊢
        rw [hk.oldv hU, hk.oldf hU (fun h => g1 (by simp [h]))] at he
        exact he
      have hlt := (hc.rng o x b g2 he').1
      rcases hal with h | h | ⟨q, o', x', h1, h2, h3⟩ | h
      · exact h.2 o x g2 he'
      · have := hlent h; omega
      · exact hc.sep o' o x' x b h2 g2 (fun e => g1 (by rw [← e]; exact List.mem_append.2 (.inl (List.mem_map.2 ⟨_, lkI_mem h1, rfl⟩)))) h3 he'
      · omega
theorem Back.cell (hk : Back B ρ ρ2 s w w' θ bw nm h0 h1) (hc : Conc N B M w0 ρ s a w) {v : Value} {c : AC} (hv : RC w.heap.size ρ2 w' (okB ρ2 (lkH h1) w') v c) (hf : bw = [] ∨ newC c = true) (hi : ∀ id ∈ c.ids, okN h0 id = true) : RC B (rhoN ρ ρ2 θ nm) w' (okB (rhoN ρ ρ2 θ nm) (updH s.H (usG θ nm h1)) w') v (c.re θ nm) := by
  cases c with
  | t x =>
    rcases hf with hf | hf
    · exact RT.keep hv fun b hb => ⟨rfl, hk.ok hc hb (.inl hf)⟩
    · cases x with
      | lst => simp [newC] at hf
      | int => cases hv; exact RT.int _ _
      | bool => cases hv; exact RT.bool _
      | str => cases hv; exact RT.str _
  | f x => exact RT.keep hv fun b hb => ⟨rfl, hk.ok hc hb.1 (.inr (hb.2 rfl)), fun _ => Nat.le_trans hk.base (hb.2 rfl)⟩
  | nils n => exact hv
  | nilp => exact hv
  | opq => exact hv
  | mpv q =>
    have := hk.val (hi q (by simp [AC.ids]))
    show RC _ _ _ _ v (.mpv (reI θ nm q))
    rw [RC, this]; exact hv
  | own q =>
    have := hk.val (hi q (by simp [AC.ids]))
    show RC _ _ _ _ v (.own (reI θ nm q))
    rw [RC, this]; exact hv
  | sub q k =>
    have := hk.val (hi q (by simp [AC.ids]))
    show RC _ _ _ _ v (.sub (reI θ nm q) k)
    rw [RC, this]; exact hv
  | ptr q k =>
    have := hk.val (hi q (by simp [AC.ids]))
    show RC _ _ _ _ v (.ptr (reI θ nm q) k)
    rw [RC, this]; exact hv
theorem Back.cells (hk : Back B ρ ρ2 s w w' θ bw nm h0 h1) (hc : Conc N B M w0 ρ s a w) : ∀ {vs : List Value} {cs : List AC}, RCs w.heap.size ρ2 w' (okB ρ2 (lkH h1) w') vs cs → (bw = [] ∨ newCs cs = true) → (∀ id ∈ cs.flatMap AC.ids, okN h0 id = true) →
    RCs B (rhoN ρ ρ2 θ nm) w' (okB (rhoN ρ ρ2 θ nm) (updH s.H (usG θ nm h1)) w') vs (reCs θ nm cs)
  | [], [], _, _, _ => trivial
  | v :: vs, c :: cs, h, hf, hi => by
    refine ⟨hk.cell hc h.1 (hf.imp id fun h => ?_) fun id hid => hi id (by simp [hid]), hk.cells hc h.2 (hf.imp id fun h => ?_) fun id hid => hi id (by simp only [List.flatMap_cons, List.mem_append]; exact .inr hid)⟩
    · rw [newCs, Bool.and_eq_true] at h; exact h.1
    · rw [newCs, Bool.and_eq_true] at h; exact h.2
  | [], _ :: _, h, _, _ => h.elim
  | _ :: _, [], h, _, _ => h.elim
theorem Back.row (hk : Back B ρ ρ2 s w w' θ bw nm h0 h1) (hc : Conc N B M w0 ρ s a w) {v : Value} {x : AR} (hv : RR w.heap.size ρ2 w' (okB ρ2 (lkH h1) w') v x) (hf : bw = [] ∨ newR x = true) (hi : ∀ id ∈ x.ids, okN h0 id = true) : RR B (rhoN ρ ρ2 θ nm) w' (okB (rhoN ρ ρ2 θ nm) (updH s.H (usG θ nm h1)) w') v (x.re θ nm) := by
  cases x with
  | c x => exact hk.cell hc hv hf hi
  | agg cs => obtain ⟨us, e, h⟩ := hv; exact ⟨us, e, hk.cells hc h hf hi⟩
theorem Back.rows (hk : Back B ρ ρ2 s w w' θ bw nm h0 h1) (hc : Conc N B M w0 ρ s a w) : ∀ {vs : List Value} {cs : List AR}, RRs w.heap.size ρ2 w' (okB ρ2 (lkH h1) w') vs cs → (bw = [] ∨ newRs cs = true) → (∀ id ∈ cs.flatMap AR.ids, okN h0 id = true) →
    RRs B (rhoN ρ ρ2 θ nm) w' (okB (rhoN ρ ρ2 θ nm) (updH s.H (usG θ nm h1)) w') vs (reRs θ nm cs)
  | [], [], _, _, _ => trivial
  | v :: vs, c :: cs, h, hf, hi => by
    refine ⟨hk.row hc h.1 (hf.imp id fun h => ?_) fun id hid => hi id (by simp [hid]), hk.rows hc h.2 (hf.imp id fun h => ?_) fun id hid => hi id (by simp only [List.flatMap_cons, List.mem_append]; exact .inr hid)⟩
    · rw [newRs, Bool.and_eq_true] at h; exact h.1
    · rw [newRs, Bool.and_eq_true] at h; exact h.2
  | [], _ :: _, h, _, _ => h.elim
  | _ :: _, [], h, _, _ => h.elim
theorem Back.value (hk : Back B ρ ρ2 s w w' θ bw nm h0 h1) (hc : Conc N B M w0 ρ s a w) {v : Value} {x : AV} (hv : RV w.heap.size ρ2 w' (okB ρ2 (lkH h1) w') v x) (hf : bw = [] ∨ newV x = true) (hi : ∀ id ∈ x.ids, okN h0 id = true) : RV B (rhoN ρ ρ2 θ nm) w' (okB (rhoN ρ ρ2 θ nm) (updH s.H (usG θ nm h1)) w') v (x.re θ nm) := by
  cases x with
  | r x => exact hk.row hc hv hf hi
  | tup xs => obtain ⟨us, e, h⟩ := hv; exact ⟨us, e, hk.rows hc h hf hi⟩
  | el => trivial
  | ro => trivial
  | unk => trivial
theorem newO_mem {l : List (Id × AO)} (h : newO l = true) : ∀ p ∈ l, (∃ cs, p.2 = .box cs ∧ newCs cs = true) ∨ (∃ sz rows, p.2 = .arr true sz rows) ∨ ∃ kk es, p.2 = .mp kk es := by
  induction l with
  | nil => simp
  | cons p l ih =>
    obtain ⟨q, y⟩ := p
    intro p' hp'
    unfold newO at h
    split at h
    · simp at *
    · rename_i heq
      injection heq with e1 e2
      injection e1 with e3 e4
      rw [Bool.and_eq_true] at h
      rcases List.mem_cons.1 hp' with rfl | hp'
      · exact .inl ⟨_, e4, h.1⟩
      · subst e2; exact ih h.2 p' hp'
    · rename_i heq
      injection heq with e1 e2
      injection e1 with e3 e4
      rcases List.mem_cons.1 hp' with rfl | hp'
      · exact .inr (.inl ⟨_, _, e4⟩)
      · subst e2; exact ih h p' hp'
    · rename_i heq
      injection heq with e1 e2
      injection e1 with e3 e4
      rcases List.mem_cons.1 hp' with rfl | hp'
      · exact .inr (.inr ⟨_, _, e4⟩)
      · subst e2; exact ih h p' hp'
    · cases h
theorem Back.object (hk : Back B ρ ρ2 s w w' θ bw nm h0 h1) (hc : Conc N B M w0 ρ s a w) {q : Id} {y : AO} (hq : (q, y) ∈ h1) (hf : bw = [] ∨ newO h1 = true) : RO B (rhoN ρ ρ2 θ nm) w' (okB (rhoN ρ ρ2 θ nm) (updH s.H (usG θ nm h1)) w') (reI θ nm q) (y.re θ nm) := by
  have hv := hk.lies.obj q y (lkH_of hk.h1n hq)
  obtain ⟨hn, hh, hi⟩ := hk.h1k _ hq
  have hval := hk.val hn
  have hfp := hk.fp hn
  have hf' := hf.imp id fun h => newO_mem h _ hq
  cases y with
  | arr fr sz rows =>
    obtain ⟨hu, hv⟩ := hv
    refine ⟨hu, ?_⟩
    rcases hv with ⟨k1, k2⟩ | ⟨b, cap, cur, e', fz, k1, k2, k3, k4, k5, k6, k7, k8⟩
    · exact .inl ⟨by rw [hval]; exact k1, k2⟩
    · refine .inr ⟨b, cap, cur, e', fz, by rw [hval]; exact k1, k2, k3, k4, k5, k6, k7.keep (fun c hc' => ⟨rfl, hk.ok hc hc'.1 ?_, fun e => Nat.le_trans hk.base (hc'.2 e)⟩), fun e => Nat.le_trans hk.base (k8 e)⟩
      rcases hf' with hf' | ⟨cs, e, _⟩ | ⟨sz', rows', e⟩ | ⟨kk, es, e⟩
      · exact .inl hf'
      · cases e
      · injection e with e; subst e; exact .inr (hc'.2 rfl)
      · cases e
  | box cells =>
    obtain ⟨b, cur, t, fz, k1, k2, k3, k4⟩ := hv
    refine ⟨b, cur, t, fz, by rw [hval]; exact k1, k2, k3, hk.cells hc k4 ?_ hi⟩
    rcases hf' with hf' | ⟨cs, e, h⟩ | ⟨sz', rows', e⟩ | ⟨kk, es, e⟩
    · exact .inl hf'
    · injection e with e; subst e; exact .inr h
    · cases e
    · cases e
  | mp kk es =>
    obtain ⟨b, ents, clock, k1, k2, k3⟩ := hv
    exact ⟨b, ents, clock, by rw [hval]; exact k1, k2, k3⟩
  | dar sz rows hole =>
    have hbw : bw = [] := by
      rcases hf' with hf' | ⟨cs, e, _⟩ | ⟨sz', rows', e⟩ | ⟨kk, es, e⟩
      · exact hf'
      · cases e
      · cases e
      · cases e
    cases hole with
    | some p => obtain ⟨i, off, n⟩ := p; simp [noHole] at hh
    | none =>
      obtain ⟨hu, hv⟩ := hv
      refine ⟨hu, ?_⟩
      rcases hv with ⟨k1, k2⟩ | ⟨b, cap, cur, e', fz, Fp, k1, k2, k3, k4, k5, k6, k7, k8, k9⟩
      · exact .inl ⟨by rw [hval]; exact k1, k2⟩
      · exact .inr ⟨b, cap, cur, e', fz, Fp, by rw [hval]; exact k1, k2, k3, k4, k5, k6, fun p c hc' => ⟨(hfp c).2 (k7 p c hc').1, (k7 p c hc').2⟩, k8, k9.keep (fun c hc' => ⟨rfl, hk.ok hc hc' (.inl hbw)⟩) (fun p c hc' => ⟨rfl, hc'⟩) fun _ _ _ e => by cases e⟩
theorem reCs_ids {cs : List AC} {id : Id} (h : id ∈ (reCs θ nm cs).flatMap AC.ids) : ∃ q ∈ cs.flatMap AC.ids, id = reI θ nm q := by
  induction cs with
  | nil => simp [reCs] at h
  | cons c cs ih =>
    simp only [reCs, List.flatMap_cons, List.mem_append] at h ⊢
    rcases h with h | h
    · cases c <;> simp only [AC.re, AC.ids, List.mem_singleton, List.not_mem_nil] at h
      all_goals exact ⟨_, .inl (List.mem_singleton.2 rfl), h⟩
    · obtain ⟨q, h1, h2⟩ := ih h
      exact ⟨q, .inr h1, h2⟩
theorem reR_ids {x : AR} {id : Id} (h : id ∈ (x.re θ nm).ids) : ∃ q ∈ x.ids, id = reI θ nm q := by
  cases x with
  | c c =>
    have : id ∈ (reCs θ nm [c]).flatMap AC.ids := by simpa [reCs, AR.re, AR.ids] using h
    obtain ⟨q, h1, h2⟩ := reCs_ids this
    exact ⟨q, by simpa [AR.ids] using h1, h2⟩
  | agg cs => exact reCs_ids h
theorem reRs_ids {cs : List AR} {id : Id} (h : id ∈ (reRs θ nm cs).flatMap AR.ids) : ∃ q ∈ cs.flatMap AR.ids, id = reI θ nm q := by
  induction cs with
  | nil => simp [reRs] at h
  | cons c cs ih =>
    simp only [reRs, List.flatMap_cons, List.mem_append] at h ⊢
    rcases h with h | h
    · obtain ⟨q, h1, h2⟩ := reR_ids h
      exact ⟨q, .inl h1, h2⟩
    · obtain ⟨q, h1, h2⟩ := ih h
      exact ⟨q, .inr h1, h2⟩
theorem reV_ids {x : AV} {id : Id} (h : id ∈ (x.re θ nm).ids) : ∃ q ∈ x.ids, id = reI θ nm q := by
  cases x with
  | r x => exact reR_ids h
  | tup xs => exact reRs_ids h
  | el => simp [AV.re, AV.ids] at h
  | ro => simp [AV.re, AV.ids] at h
  | unk => simp [AV.re, AV.ids] at h
theorem reO_ids {x : AO} (hn : noHole x = true) {id : Id} (h : id ∈ (x.re θ nm).ids) : ∃ q ∈ x.ids, id = reI θ nm q := by
  cases x with
  | arr => simp [AO.re, AO.ids] at h
  | mp => simp [AO.re, AO.ids] at h
  | box cs => exact reCs_ids h
  | dar sz rows hole =>
    cases hole with
    | none => simp [AO.re, AO.ids] at h
    | some p => obtain ⟨i, off, n⟩ := p; simp [noHole] at hn
theorem Back.usedN (hk : Back B ρ ρ2 s w w' θ bw nm h0 h1) {q : Id} (hq : okN h0 q = true) : s.U (reI θ nm q).1 ∨ (reI θ nm q).1 = nm := by
  rcases hk.name hq with ⟨o, x, g1, g2, g3, g4⟩ | ⟨g1, g2, g3⟩
  · rw [g4]; exact .inl (hk.used o x g2)
  · rw [g3]; exact .inr rfl
end
theorem sound_callG {f : FuncId} {args : Array Operand} {argTypes : Array TypeId} {nm : Nat} (ho : o.op = .call { callee := .value (.func f), args, argTypes }) (h : semG P f nm (args.toList.map ev) H K) : ∃ e, K e ∧ Good P o ev H e := by
  obtain ⟨xs, h0, r, h1, hs, h⟩ := h
  obtain ⟨θ1, bw1, h, _, _, hv1⟩ := maVs_spec h
  obtain ⟨θ, bw, ⟨hchk, hK0⟩, hext, hbw, hO⟩ := maO_spec h
  have hv := hv1.mono hext hbw
  rw [Bool.and_eq_true, Bool.and_eq_true] at hchk
  obtain ⟨⟨hI, hJ⟩, hnew0⟩ := hchk
  simp only [okI, Bool.and_eq_true, List.all_eq_true, nodupI_iff, memI_iff, Bool.not_eq_true'] at hI
  obtain ⟨⟨⟨⟨i1, i2⟩, i3⟩, i4⟩, i5⟩ := hI
  simp only [okJ, Bool.and_eq_true, List.all_eq_true, nodupI_iff, Nat.beq_eq_true_eq] at hJ
  obtain ⟨⟨⟨j1, j2⟩, j3⟩, j4⟩ := hJ
  have hnewV : bw = [] ∨ newV r = true := by
    rw [Bool.or_eq_true] at hnew0
    rcases hnew0 with g | g
    · left; simpa using g
    · right; rw [Bool.and_eq_true] at g; exact g.1
  have hnewO : bw = [] ∨ newO h1 = true := by
    rw [Bool.or_eq_true] at hnew0
    rcases hnew0 with g | g
    · left; simpa using g
    · right; rw [Bool.and_eq_true] at g; exact g.2
  refine ⟨_, hK0, ?_⟩
  intro N B M w0 ρ s a w Q K' hc hop hR hn hd hK
  have hRb : ∀ o ∈ bw, s.H o = H o := fun o h => hR o (by simp [h])
  have hb : Bound s θ bw h0 := by
    refine ⟨i1, fun p hp => ⟨(i4 p hp).1, fun hm => ?_⟩, fun p hp => ?_⟩
    · have := (i4 p hp).2
      rw [memI_iff.2 hm] at this; cases this
    · obtain ⟨o, x, g1, g2, g3⟩ := hO p hp
      refine ⟨o, x, g1, ?_, g3.congr hRb⟩
      rw [hR o (List.mem_append.2 (.inl (List.mem_map.2 ⟨_, lkI_mem g1, rfl⟩)))]; exact g2
  have hvs := relVs_ok (h0 := h0) (B' := w.heap.size) hc hb (hv.congr hRb) (fun x hx => hop x (by simp only [ho, Op.operands, Call.operands, Array.toList_append, List.mem_append]; exact .inr hx))
  have hcalls := hs.2 w (args.map a.eval) (rhoK ρ s w θ bw) (by simpa using hvs) (call_lies hc hb) (fun b hb' => by
    rcases hb' with hb' | hb'
    · exact .inr (.inr (.inr hb'))
    · exact .inr (.inr (.inl (call_ms hb hb'))))
  have hrun : (execOp a.eval o).run P w = .ok (.enter f (args.map a.eval)) w := by
    have he : a.eval (.func f) = .func (.func f) #[] #[] := rfl
    simp [execOp, ho, resolve, he, Deferred.ofValue, invoke, hs.1 _ _]
  unfold Oper.wp
  rw [hrun]
  show Calls P f (args.map a.eval) w _
  refine hcalls.mono fun e w' ⟨v, ρ2, he, hkeep, hname, hal, hrv, hlies, hown⟩ => ?_
  subst he
  have hnm := hn nm rfl
  have hk : Back B ρ ρ2 s w w' θ bw nm h0 h1 := by
    refine ⟨hb, fun p hp => by simpa using j4 p hp, j1, fun p hp => ?_, hnm, fun o x ho => (hc.usedH o x ho).1, hname, hal, hlies, hown, hkeep.size, hc.base⟩
    have := j2 p hp
    exact ⟨this.1.1, this.1.2, this.2⟩
  show K' (a.put o.dst v) w'
  refine hK v w' (rhoN ρ ρ2 θ nm) ?_
  have hHk : ∀ o x, o ∈ (θ.map (·.2)) ++ h1.map (fun p => reI θ nm p.1) → updH s.H (usG θ nm h1) o = some x → ∃ q y, (q, y) ∈ h1 ∧ o = reI θ nm q ∧ x = y.re θ nm := fun o x hm hx => by
    rcases usG_get s.H hx with g | ⟨g, _⟩
    · exact g
    · exact absurd hm g
  have := hc.step (Ms (rhoK ρ s w θ bw) h0) ((θ.map (·.2)) ++ h1.map (fun p => reI θ nm p.1)) (w' := w') (ρ' := rhoN ρ ρ2 θ nm) (H' := updH s.H (usG θ nm h1)) (U' := fun n => s.U n ∨ n = nm) (a' := a.put o.dst v) (L' := putL s.L o.dst (r.re θ nm))
    ⟨hkeep.os, hkeep.tape, hkeep.output, hkeep.size, hkeep.block⟩ (by rw [put_size]; exact hc.size) (by rw [put_defers]; exact hc.defers)
    (fun o ho => hk.oldv ho)
    (fun o x hm ho => by
      funext c
      exact propext (hk.oldf (hc.usedH o x ho).1 (fun h => hm (by simp [h])) c)) rfl
    (fun o hm => by
      refine updH_other _ _ o fun h => hm ?_
      simp only [usG, List.map_append, List.map_map] at h
      exact h)
    (fun n hn => .inl hn)
    (fun b hb' hM => by
      obtain ⟨q, o, x, g1, g2, g3⟩ := call_ms hb hM
      exact hb'.2 o x g2 g3)
    (fun o x b g1 g2 g3 hM => by
      obtain ⟨q, o', x', k1, k2, k3⟩ := call_ms hb hM
      exact hc.sep o o' x x' b g1 k2 (fun e => g2 (by rw [e]; exact List.mem_append.2 (.inl (List.mem_map.2 ⟨_, lkI_mem k1, rfl⟩)))) g3 k3)
    (fun b hB hnM hM => by
      obtain ⟨q, o', x', k1, k2, k3⟩ := call_ms hb hM
      rcases (hc.rng o' x' b k2 k3).2 with g | g
      · omega
      · exact hnM g)
    (fun o x b g1 g2 g3 => by
      obtain ⟨q, y, k1, rfl, rfl⟩ := hHk o x g1 g2
      rw [hk.owned (hk.h1k _ k1).1] at g3
      have hl := lkH_of hk.h1n k1
      refine ⟨hlies.lt q y b hl g3, ?_, ?_⟩
      · rcases hown q y b hl g3 with g | g
        · exact .inl (Nat.le_trans hc.base g)
        · obtain ⟨q', o', x', m1, m2, m3⟩ := call_ms hb g
          exact (hc.rng o' x' b m2 m3).2
      · rcases hown q y b hl g3 with g | g
        · exact .inl g
        · obtain ⟨q', o', x', m1, m2, m3⟩ := call_ms hb g
          exact .inr ⟨o', x', m2, List.mem_append.2 (.inl (List.mem_map.2 ⟨_, lkI_mem m1, rfl⟩)), m3⟩)
    (fun o o' x x' b g1 g1' g2 g2' hne g3 g3' => by
      obtain ⟨q, y, k1, rfl, rfl⟩ := hHk o x g1 g2
      obtain ⟨q', y', k1', rfl, rfl⟩ := hHk o' x' g1' g2'
      rw [hk.owned (hk.h1k _ k1).1] at g3
      rw [hk.owned (hk.h1k _ k1').1] at g3'
      exact hlies.sep q q' y y' b (lkH_of hk.h1n k1) (lkH_of hk.h1n k1') (fun e => hne (by rw [e])) g3 g3')
    (fun _ o x g1 g2 => by
      obtain ⟨q, y, k1, rfl, rfl⟩ := hHk o x g1 g2
      obtain ⟨m1, m2, m3⟩ := hk.h1k _ k1
      refine ⟨hk.object hc k1 hnewO, hk.usedN m1, fun o' ho' => ?_⟩
      obtain ⟨q', e1, rfl⟩ := reO_ids m2 ho'
      exact hk.usedN (m3 q' e1))
    (fun _ t => hc.slots hd (U' := fun n => s.U n ∨ n = nm) (hk.value hc hrv hnewV j3) (fun id hid => by
      obtain ⟨q', e1, rfl⟩ := reV_ids hid
      exact hk.usedN (j3 q' e1)) t)
  exact this.congr (fun _ => rfl) (fun _ => rfl) (fun n => by simp [F_.app, eq_comm])
theorem sem_ok {nm : Nat} (hΓ : Γ.chk P = true) (h : sem P Γ nm o ev H K) : ∃ e, K e ∧ Good P o ev H e := by
  unfold sem at h
  split at h
  · exact ⟨_, h, sound_move (.inl (by assumption))⟩
  · exact ⟨_, h, sound_move (.inr (by assumption))⟩
  · rename_i c x y ho
    split at h
    · rename_i t hc
      have := sound_pick (P := P) (H := H) ho hc
      cases t
      · exact ⟨_, h, this⟩
      · exact ⟨_, h, this⟩
    · exact h.elim
  · split at h
    · rename_i ho _ _ _ _ hd hT
      exact ⟨_, h, sound_alloc hΓ hT hd ho⟩
    · exact h.elim
  · split at h
    · rename_i ho _ _ _ _ hd hx
      exact ⟨_, h, sound_box hd ho hx⟩
    · exact h.elim
  · split at h
    · rename_i ho _ _ hT
      obtain ⟨H', us, R, h, hcl⟩ := close_spec h
      obtain ⟨e, h1, h2⟩ := sound_load hΓ hT ho h
      exact ⟨_, h1, good_close hcl h2⟩
    · exact h.elim
  · split at h
    · rename_i ho _ _ hT
      obtain ⟨H', us, R, h, hcl⟩ := close_spec h
      obtain ⟨e, h1, h2⟩ := sound_store hΓ hT ho h
      exact ⟨_, h1, good_close hcl h2⟩
    · exact h.elim
  · split at h
    · rename_i ho _ _ hT
      split at h
      · rename_i hf
        obtain ⟨v, h1, h2⟩ := sound_fieldAddr (H := H) hΓ hT hf ho h
        exact ⟨_, h1, h2⟩
      · exact h.elim
    · exact h.elim
  · split at h
    · rename_i ho _ _ hT
      split at h
      · rename_i he
        split at h
        · rename_i hE
          exact sound_indexAddr hΓ hT he hE ho h
        · exact h.elim
      · exact h.elim
    · exact h.elim
  · split at h
    · rename_i ho _ _ hT
      split at h
      · rename_i hs
        obtain ⟨v, h1, h2⟩ := sound_index (H := H) hΓ hT hs ho h
        exact ⟨_, h1, h2⟩
      · exact h.elim
    · exact h.elim
  · rename_i ho
    split at h
    · split at h
      · rename_i hT
        split at h
        · rename_i hb
          obtain ⟨v, h1, h2⟩ := sound_bool (H := H) hΓ hT hb ho h
          exact ⟨_, h1, h2⟩
        · exact h.elim
      · exact h.elim
    · rename_i hx
      split at h
      · rename_i hT
        obtain ⟨v, h1, h2⟩ := sound_eqS (H := H) hΓ hT ho hx h.1 h.2
        exact ⟨_, h1, h2⟩
      · exact h.elim
    · obtain ⟨v, h1, h2⟩ := sound_bin (P := P) (H := H) ho h
      exact ⟨_, h1, h2⟩
  · rename_i ho
    obtain ⟨v, h1, h2⟩ := sound_un (P := P) (H := H) ho h
    exact ⟨_, h1, h2⟩
  · rename_i ho
    split at h
    · rename_i hd hk
      exact ⟨_, h, sound_makeMap hd ho⟩
    · exact h.elim
  · rename_i ho
    exact sound_lookup hΓ ho h
  · rename_i ho
    exact sound_mapSet hΓ (.inl ho) h
  · rename_i ho
    exact sound_mapDel hΓ ho h
  · rename_i ho
    split at h
    · rename_i hd hs ht
      exact sound_convert hΓ hs ht hd ho h
    · exact h.elim
  · rename_i ho
    split at h
    · rename_i hT
      split at h
      · exact h.elim
      · rename_i hne
        exact sound_build hΓ hT ho (fun e => hne e) h
    · exact h.elim
  · rename_i ho
    split at h
    · rename_i hd hT
      split at h
      · rename_i he
        split at h
        · rename_i hE
          split at h
          · rename_i hn
            split at h
            · exact sound_buildSlice hΓ hT he hE hd ho (by simpa using hn) h
            · exact sound_buildSliceD hΓ hT he hE hd ho (by simpa using hn) h
          · exact h.elim
        · exact h.elim
      · exact h.elim
    · exact h.elim
  · rename_i ho
    split at h
    · rename_i hd hT
      split at h
      · rename_i he
        split at h
        · rename_i hE
          exact sound_make hΓ hT he hE hd ho h
        · exact h.elim
      · exact h.elim
    · exact h.elim
  · rename_i ho
    split at h
    · rename_i hT
      split at h
      · rename_i he
        split at h
        · rename_i hE
          split at h
          · exact h.elim
          · rename_i hns
            exact sound_slice_lst hΓ hT he hE ho h (fun t ht => hns t ht)
        · exact h.elim
      · split at h
        · rename_i hs
          obtain ⟨t, hx, h⟩ := h
          exact sound_slice_str hΓ hT hs ho hx h
        · exact h.elim
    · exact h.elim
  · rename_i ho
    split at h
    · rename_i hT
      split at h
      · rename_i hf
        split at h
        · rename_i hft
          obtain ⟨v, h1, h2⟩ := sound_field (H := H) hΓ hT hf hft ho h
          exact ⟨_, h1, h2⟩
        · exact h.elim
      · exact h.elim
    · exact h.elim
  · rename_i ho
    obtain ⟨v, h1, h2⟩ := sound_extract (P := P) (H := H) ho h
    exact ⟨_, h1, h2⟩
  · rename_i ho
    split at h
    · rename_i hx
      exact ⟨_, h, sound_nil ho hx (.inl ⟨_, _, rfl⟩)⟩
    · rename_i hx
      exact ⟨_, h, sound_nil ho hx (.inr (.inl ⟨_, _, _, _, rfl⟩))⟩
    · rename_i hx
      exact ⟨_, h, sound_nil ho hx (.inr (.inr ⟨_, _, _, rfl⟩))⟩
    · exact h.elim
  · rename_i ho
    split at h
    · rename_i hT
      exact sound_len hΓ hT ho h
    · exact h.elim
  · rename_i ho
    split at h
    · rename_i hd hT hU
      split at h
      · rename_i he hk
        split at h
        · rename_i hE
          exact sound_append hΓ hT hU he hk hE hd ho h
        · exact h.elim
      · exact h.elim
    · exact h.elim
  · rename_i ho
    split at h
    · rename_i hx hy
      exact ⟨_, h, sound_min ho hx hy⟩
    · exact h.elim
  · rename_i ho
    split at h
    · rename_i hx hy
      exact ⟨_, h, sound_max ho hx hy⟩
    · exact h.elim
  · rename_i ho
    split at h
    · rename_i hd
      rcases h with ⟨ts, r, h1, h2, h3⟩ | h
      · exact ⟨_, h3, sound_call hd ho h1 h2⟩
      · exact sound_callG ho h
    · rename_i hd
      rcases h with ⟨ts, r, h1, h2, h3⟩ | h
      · exact ⟨_, h3, sound_call_drop hd ho h1 h2⟩
      · exact sound_callG ho h
  · exact h.elim
end
end Go.Sim
