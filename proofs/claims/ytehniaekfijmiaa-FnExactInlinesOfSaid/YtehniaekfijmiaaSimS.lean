/- Steps of the reading alone: a hole is filled, an array is seen as deep or as flat. -/
import Derived.Test.YtehniaekfijmiaaSimI
namespace Go.Sim
open Go.RowKit
section
variable {P : Program} {Γ : Env} {N B : Nat} {M : Nat → Prop} {w0 : Start} {ρ : Rho} {s : F_} {a : Act} {w : World} {o : Oper} {ev : Operand → AV} {H : Id → Option AO} {K : Eff → Prop} {KV : AV → Prop}
theorem updH_append : ∀ (us us' : List (Id × Option AO)) (H : Id → Option AO), updH H (us ++ us') = updH (updH H us) us'
  | [], _, _ => rfl
  | p :: us, us', H => by rw [List.cons_append, updH, updH_append us us']; rfl
theorem Conc.ghost (h : Conc N B M w0 ρ s a w) (keys : List Id) {ρ' : Rho} {H' : Id → Option AO} (hρ : ∀ o, ρ' o = ρ o) (hfp : ∀ o x, o ∉ keys → s.H o = some x → ρ'.fp o = ρ.fp o) (hal : ρ'.al = ρ.al) (hH : ∀ o, o ∉ keys → H' o = s.H o)
    (hnew : ∀ o x b, o ∈ keys → H' o = some x → Own ρ' o b → ∃ o' x', s.H o' = some x' ∧ o' ∈ keys ∧ Own ρ o' b)
    (hsep : ∀ o o' x x' b, o ∈ keys → o' ∈ keys → H' o = some x → H' o' = some x' → o ≠ o' → Own ρ' o b → ¬ Own ρ' o' b)
    (hobj : ∀ (_ : ∀ b, okB ρ s.H w b → okB ρ' H' w b), ∀ o x, o ∈ keys → H' o = some x → RO B ρ' w (okB ρ' H' w) o x ∧ s.U o.1 ∧ ∀ o' ∈ x.ids, s.U o'.1) : Conc N B M w0 ρ' ⟨s.L, H', s.U⟩ a w := by
  have := h.step (fun _ => False) keys (w' := w) (ρ' := ρ') (H' := H') (U' := s.U) (a' := a) (L' := s.L) (Turn.refl _ _) h.size h.defers (fun o _ => hρ o) hfp hal hH (fun _ h => h) (fun _ _ h => h) (fun _ _ _ _ _ _ h => h) (fun _ _ _ h => h)
    (fun o x b h1 h2 h3 => by
      obtain ⟨o', x', g1, g2, g3⟩ := hnew o x b h1 h2 h3
      have := h.rng o' x' b g1 g3
      exact ⟨this.1, this.2, .inr ⟨o', x', g1, g2, g3⟩⟩) hsep (fun hk => hobj fun b hb => (hk b hb).2) (fun _ t => .inl ⟨rfl, rfl⟩)
  exact this
theorem Conc.close (h : Conc N B M w0 ρ s a w) {q n : Id} (hqn : n ≠ q) {sz : Nat} {rows : List (List DC)} {i off : Nat} (hq : s.H q = some (.dar sz rows (some (i, off, n)))) {y : AO} (hy : s.H n = some y) {t : Nat} {rs : List (List Tr)}
    (hDT : DT w (Own ρ n) (ρ n) (.lst t rs)) {row : List DC} (hr : rows[i]? = some row) (ho : off < sz) :
    ∃ ρ', Conc N B M w0 ρ' ⟨s.L, updH s.H [(n, none), (q, some (.dar sz (rows.set i (row.set off (.d (.lst t rs)))) none))], s.U⟩ a w := by
  obtain ⟨hu, g⟩ := h.dar hq
  have hi : i < rows.length := by
    rcases Nat.lt_or_ge i rows.length with h' | h'
    · exact h'
    · rw [List.getElem?_eq_none h'] at hr; cases hr
  rcases g with ⟨_, g, _⟩ | ⟨b, cap, cur, e, fz, Fp, g1, g2, g3, g4, g5, g6, g7, g8, g9, g10⟩
  · subst g; simp at hr
  let ρ' : Rho := ⟨ρ.val, fun o c => ρ.fp o c ∨ (o = q ∧ Own ρ n c), ρ.al⟩
  have hown : ∀ o c, Own ρ' o c ↔ (Own ρ o c ∨ (o = q ∧ Own ρ n c)) := fun o c => by
    show (blk (ρ o) = some c ∨ (ρ.fp o c ∨ (o = q ∧ Own ρ n c))) ↔ (Own ρ o c ∨ (o = q ∧ Own ρ n c))
    rw [← or_assoc]; rfl
  have hUpd : ∀ o, updH s.H [(n, none), (q, some (.dar sz (rows.set i (row.set off (.d (.lst t rs)))) none))] o = if o = q then some (.dar sz (rows.set i (row.set off (.d (.lst t rs)))) none) else if o = n then none else s.H o := by
    intro o; simp only [updH]
  refine ⟨ρ', ?_⟩
  refine h.ghost [q, n] (ρ' := ρ') (fun _ => rfl) (fun o x h1 _ => ?_) rfl (fun o h1 => ?_) (fun o x c h1 h2 h3 => ?_) (fun o o' x x' c h1 h2 h3 h4 hne => ?_) (fun hk o x h1 h2 => ?_)
  · simp only [List.mem_cons, List.not_mem_nil, or_false, not_or] at h1
    funext c
    exact propext ⟨fun hc => hc.elim id fun hc => absurd hc.1 h1.1, .inl⟩
  · simp only [List.mem_cons, List.not_mem_nil, or_false, not_or] at h1
    rw [hUpd, if_neg h1.1, if_neg h1.2]
  · simp only [List.mem_cons, List.not_mem_nil, or_false] at h1
    rw [hUpd] at h2
    rcases h1 with rfl | rfl
    · rw [hown] at h3
      rcases h3 with h3 | ⟨_, h3⟩
      · exact ⟨o, _, hq, by simp, h3⟩
      · exact ⟨n, _, hy, by simp, h3⟩
    · rw [if_neg hqn, if_pos rfl] at h2; cases h2
  · exfalso
    rw [hUpd] at h3 h4
    simp only [List.mem_cons, List.not_mem_nil, or_false] at h1 h2
    rcases h1 with rfl | rfl
    · rcases h2 with rfl | rfl
      · exact hne rfl
      · rw [if_neg hqn, if_pos rfl] at h4; cases h4
    · rw [if_neg hqn, if_pos rfl] at h3; cases h3
  · rw [hUpd] at h2
    simp only [List.mem_cons, List.not_mem_nil, or_false] at h1
    rcases h1 with rfl | rfl
    · rw [if_pos rfl] at h2
      injection h2 with h2; subst h2
      have hrow := hu row (List.mem_of_getElem? hr)
      have hfl := flatten_set sz rows i off row (.d (.lst t rs)) hu hr ho
      refine ⟨⟨fun r hr' => ?_, .inr ⟨b, cap, cur, e, fz, fun p c => (p ≠ i * sz + off ∧ Fp p c) ∨ (p = i * sz + off ∧ Own ρ n c), by rw [List.length_set]; exact g1, g2, g3, by rw [List.length_set]; exact g4, g5, g6, fun p c hc => ?_, fun p p' c hne h1 h2 => ?_, ?_, fun p v d hv hd => ?_⟩⟩, (h.usedH o _ hq).1, by simp [AO.ids]⟩
      · rcases List.mem_or_eq_of_mem_set hr' with h' | h'
        · exact hu r h'
        · rw [h', List.length_set]; exact hrow
      · rcases hc with ⟨_, hc⟩ | ⟨_, hc⟩
        · exact ⟨.inl (g7 p c hc).1, (g7 p c hc).2⟩
        · refine ⟨.inr ⟨rfl, hc⟩, fun e => ?_⟩
          subst e
          exact h.sep n o y _ c hy hq hqn hc (.inl (by rw [g1]; rfl))
      · rcases h1 with ⟨m1, h1⟩ | ⟨m1, h1⟩ <;> rcases h2 with ⟨m2, h2⟩ | ⟨m2, h2⟩
        · exact g8 p p' c hne h1 h2
        · exact h.sep n o y _ c hy hq hqn h2 (.inr (g7 p c h1).1)
        · exact h.sep n o y _ c hy hq hqn h1 (.inr (g7 p' c h2).1)
        · omega
      · rw [List.length_set, hfl, List.length_set]; exact g9.1
      · simp only [holeAt]
        rw [hfl] at hd
        rw [List.length_set] at hv
        by_cases hp : p = i * sz + off
        · subst hp
          rw [List.getElem?_set_self (by
            rw [← g9.1]
            have := List.getElem?_eq_some_iff.1 hv
            exact this.1)] at hd
          injection hd with hd; subst hd
          have hlt : i * sz + off < rows.flatten.length := by
            rw [← g9.1]; exact (List.getElem?_eq_some_iff.1 hv).1
          have := g9.2 _ v _ hv (List.getElem?_eq_getElem hlt)
          simp only [holeAt, if_true] at this
          rw [this.1]
          exact hDT.keep fun c hc => ⟨rfl, .inr ⟨rfl, hc⟩⟩
        · rw [List.getElem?_set_ne (fun e => hp e.symm)] at hd
          have := g9.2 p v d hv hd
          simp only [holeAt, if_neg hp] at this
          exact RD.keep this (fun b' hb' => ⟨rfl, hk b' hb'⟩) fun c hc => ⟨rfl, .inl ⟨hp, hc⟩⟩
    · rw [if_neg hqn, if_pos rfl] at h2; cases h2
theorem close_spec {x : AV} {K : (Id → Option AO) → List (Id × Option AO) → List Id → Prop} (hx : closeAt H x K) : ∃ H' us R, K H' us R ∧ ∀ {N B : Nat} {M : Nat → Prop} {w0 : Start} {ρ : Rho} {s : F_} {a : Act} {w : World}, Conc N B M w0 ρ s a w →
    (∀ id ∈ R, s.H id = H id) → (∃ ρ', Conc N B M w0 ρ' ⟨s.L, updH s.H us, s.U⟩ a w) ∧ ∀ id, s.H id = H id → updH s.H us id = H' id := by
  have same : ∀ {K : (Id → Option AO) → List (Id × Option AO) → List Id → Prop}, K H [] [] → ∃ H' us R, K H' us R ∧ ∀ {N B : Nat} {M : Nat → Prop} {w0 : Start} {ρ : Rho} {s : F_} {a : Act} {w : World}, Conc N B M w0 ρ s a w →
      (∀ id ∈ R, s.H id = H id) → (∃ ρ', Conc N B M w0 ρ' ⟨s.L, updH s.H us, s.U⟩ a w) ∧ ∀ id, s.H id = H id → updH s.H us id = H' id :=
    fun h => ⟨H, [], [], h, fun hc _ => ⟨⟨_, hc⟩, fun id hid => hid⟩⟩
  have agree : ∀ {s : F_} {q n : Id} {d : AO} (id : Id), s.H id = H id → updH s.H [(n, none), (q, some d)] id = setH (setH H n none) q (some d) id := by
    intro s q n d id hid
    have he : ∀ x y : Id, (bif idEq x y then true else false) = decide (x = y) := fun x y => by
      cases hb : idEq x y with
      | true => rw [idEq_iff] at hb; simp [hb]
      | false => symm; simp only [cond_false, decide_eq_false_iff_not]; intro e; rw [idEq_iff.2 e] at hb; cases hb
    have hb : ∀ (x y : Id) (A B : Option AO), (bif idEq x y then A else B) = if x = y then A else B := fun x y A B => by
      have := he x y
      cases hb : idEq x y with
      | true => rw [hb] at this; have h2 : x = y := by simpa using this
                simp [h2]
      | false => rw [hb] at this; have h2 : ¬ x = y := by simpa using this
                 simp [h2]
    simp only [updH, setH, hb]
    by_cases e1 : id = q
    · simp [e1]
    · have e1' : ¬ q = id := fun e => e1 e.symm
      by_cases e2 : id = n
      · subst e2; simp [e1, e1']
      · have e2' : ¬ n = id := fun e => e2 e.symm
        simp [e1, e1', e2, e2', hid]
  unfold closeAt at hx
  split at hx
  · rename_i q sz' i' off'
    split at hx
    · rename_i sz rows i off n hq
      split at hx
      · rename_i fr t rs hn hy
        obtain ⟨hfl, row, hr, ho, hK⟩ := hx
        have hqn : n ≠ q := fun e => by rw [idEq_iff.2 e] at hn; cases hn
        refine ⟨_, _, _, hK, fun hc hR => ⟨?_, agree⟩⟩
        have hq' := (hR q (by simp)).trans hq
        have hy' := (hR n (by simp)).trans hy
        exact hc.close hqn hq' hy' (arr_DT hc hy' hfl) hr ho
      · rename_i t rs hn hy
        obtain ⟨rs', rfl, row, hr, ho, hK⟩ := hx
        have hqn : n ≠ q := fun e => by rw [idEq_iff.2 e] at hn; cases hn
        refine ⟨_, _, _, hK, fun hc hR => ⟨?_, agree⟩⟩
        have hq' := (hR q (by simp)).trans hq
        have hy' := (hR n (by simp)).trans hy
        exact hc.close hqn hq' hy' (dar_DT hc hy') hr ho
      · exact hx.elim
    · exact same hx
  · exact same hx
theorem good_close {H' : Id → Option AO} {us : List (Id × Option AO)} {R : List Id} {e : Eff} (hcl : ∀ {N B : Nat} {M : Nat → Prop} {w0 : Start} {ρ : Rho} {s : F_} {a : Act} {w : World}, Conc N B M w0 ρ s a w →
    (∀ id ∈ R, s.H id = H id) → (∃ ρ', Conc N B M w0 ρ' ⟨s.L, updH s.H us, s.U⟩ a w) ∧ ∀ id, s.H id = H id → updH s.H us id = H' id) (hg : Good P o ev H' e) : Good P o ev H ⟨e.v, us ++ e.us, e.new, R ++ e.R⟩ := by
  intro N B M w0 ρ s a w Q K hc hop hR hn hd hK
  obtain ⟨⟨ρ1, h1⟩, h2⟩ := hcl hc fun id hid => hR id (by simp [hid])
  refine hg N B M w0 ρ1 ⟨s.L, updH s.H us, s.U⟩ a w Q K h1 hop (fun id hid => h2 id (hR id (by simp [hid]))) hn hd fun v w' ρ' h' => hK v w' ρ' ?_
  refine h'.congr (fun _ => rfl) (fun o => ?_) fun _ => Iff.rfl
  simp only [F_.app, updH_append]
theorem Conc.deepen (h : Conc N B M w0 ρ s a w) {q : Id} {fr : Bool} {sz : Nat} {rows : List (List Tr)} (hq : s.H q = some (.arr fr sz rows)) (hfl : flat rows) : Conc N B M w0 ρ ⟨s.L, updH s.H [(q, some (.dar sz (deepRows rows) none))], s.U⟩ a w := by
  refine h.ghost [q] (fun _ => rfl) (fun _ _ _ _ => rfl) rfl (fun o h1 => ?_) (fun o x c h1 h2 h3 => ?_) (fun o o' x x' c h1 h2 h3 h4 hne => ?_) (fun hk o x h1 h2 => ?_)
  · simp only [List.mem_cons, List.not_mem_nil, or_false] at h1
    simp [updH, h1]
  · simp only [List.mem_cons, List.not_mem_nil, or_false] at h1
    subst h1; exact ⟨o, _, hq, by simp, h3⟩
  · simp only [List.mem_cons, List.not_mem_nil, or_false] at h1 h2
    exact absurd (h1.trans h2.symm) hne
  · simp only [List.mem_cons, List.not_mem_nil, or_false] at h1
    subst h1
    simp only [updH, if_true, Option.some.injEq] at h2
    subst h2
    refine ⟨(arr_DT h hq hfl).toDar rfl fun c hc hne => hc.elim (fun e => absurd e hne) id, (h.usedH _ _ hq).1, by simp [AO.ids]⟩
theorem Conc.undeep (h : Conc N B M w0 ρ s a w) {q : Id} {sz : Nat} {rows : List (List Tr)} (hq : s.H q = some (.dar sz (deepRows rows) none)) (hfl : flat rows) : Conc N B M w0 ρ ⟨s.L, updH s.H [(q, some (.arr false sz rows))], s.U⟩ a w := by
  refine h.ghost [q] (fun _ => rfl) (fun _ _ _ _ => rfl) rfl (fun o h1 => ?_) (fun o x c h1 h2 h3 => ?_) (fun o o' x x' c h1 h2 h3 h4 hne => ?_) (fun hk o x h1 h2 => ?_)
  · simp only [List.mem_cons, List.not_mem_nil, or_false] at h1
    simp [updH, h1]
  · simp only [List.mem_cons, List.not_mem_nil, or_false] at h1
    subst h1; exact ⟨o, _, hq, by simp, h3⟩
  · simp only [List.mem_cons, List.not_mem_nil, or_false] at h1 h2
    exact absurd (h1.trans h2.symm) hne
  · simp only [List.mem_cons, List.not_mem_nil, or_false] at h1
    subst h1
    simp only [updH, if_true, Option.some.injEq] at h2
    subst h2
    exact ⟨(dar_DT h hq).toArr hfl rfl, (h.usedH _ _ hq).1, by simp [AO.ids]⟩
end
end Go.Sim
