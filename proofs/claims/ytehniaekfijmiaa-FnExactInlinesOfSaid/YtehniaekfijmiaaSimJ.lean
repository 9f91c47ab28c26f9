/- Calls. -/
import Derived.Test.YtehniaekfijmiaaSimS
namespace Go.Sim
open Go.RowKit
section
variable {P : Program} {Γ : Env} {N B : Nat} {M : Nat → Prop} {w0 : Start} {ρ ρ' : Rho} {s : F_} {a : Act} {w w' : World} {o : Oper} {ev : Operand → AV} {H : Id → Option AO} {K : Eff → Prop} {KV : AV → Prop}
theorem map_flat {α β : Type} (f : α → β) (l : List (List α)) : (l.map (·.map f)).flatten = l.flatten.map f := (List.map_flatten ..).symm
theorem arr_RT (hc : Conc N B M w0 ρ s a w) {ok' : Nat → Prop} (hk : ∀ b, okB ρ s.H w b → ok' b) {q : Id} (hq' : ∀ x b, s.H q = some x → Own ρ q b → ok' b) {fr : Bool} {sz : Nat} {rows : List (List Tr)} (hq : s.H q = some (.arr fr sz rows)) : RT w ok' (ρ q) (.lst sz rows) := by
  obtain ⟨hu, g⟩ := hc.arr hq
  rcases g with ⟨g1, g2⟩ | ⟨b, cap, cur, e, fz, g1, g2, g3, g4, g5, g6, g7, g8, g9⟩
  · subst g2; rw [g1]; exact .emp _ _ _ (Nat.zero_le _)
  · have hb := hq' _ b hq (.inl (by rw [g1]; rfl))
    rw [g1]
    exact .lst _ _ _ _ _ _ rfl g4 g5 hu hb (by rw [g7.length]) g8 fun p v u hv hu' => (g7.get p v u hv hu').keep fun c hc' => ⟨rfl, hk c hc'.1⟩
theorem dar_RT (hc : Conc N B M w0 ρ s a w) {ok' : Nat → Prop} (hk : ∀ b, okB ρ s.H w b → ok' b) {q : Id} (hq' : ∀ x b, s.H q = some x → Own ρ q b → ok' b) {sz : Nat} {rows : List (List DC)} (hq : s.H q = some (.dar sz rows none)) : RT w ok' (ρ q) (.lst sz (rows.map (·.map DC.tr))) := by
  obtain ⟨hu, g⟩ := hc.dar hq
  rcases g with ⟨g1, g2, _⟩ | ⟨b, cap, cur, e, fz, Fp, g1, g2, g3, g4, g5, g6, g7, g8, g9, g10⟩
  · subst g2; rw [g1]; exact .emp _ _ _ (Nat.zero_le _)
  · have hb := hq' _ b hq (.inl (by rw [g1]; rfl))
    rw [g1]
    refine .lst _ _ _ _ _ _ (by simp) g4 g5 (fun r hr => ?_) hb (by rw [g9.1, map_flat, List.length_map]) g10 fun p v u hv hu' => ?_
    · obtain ⟨r', h1, rfl⟩ := List.mem_map.1 hr
      rw [List.length_map]; exact hu r' h1
    · rw [map_flat, List.getElem?_map] at hu'
      cases hd : rows.flatten[p]? with
      | none => rw [hd] at hu'; cases hu'
      | some d =>
        rw [hd] at hu'
        injection hu' with hu'
        subst hu'
        have := g9.2 p v d hv hd
        simp only [holeAt] at this
        cases d with
        | t x => exact RT.keep this fun c hc' => ⟨rfl, hk c hc'⟩
        | d x => exact DT.toRT this fun c hc' => hq' _ c hq (.inr (g7 p c hc').1)
theorem acTree_ok' (hc : Conc N B M w0 ρ s a w) {ok' : Nat → Prop} (hk : ∀ b, okB ρ s.H w b → ok' b) {v : Value} {c : AC} {t : Tr} (hq' : ∀ q ∈ c.ids, ∀ x b, s.H q = some x → Own ρ q b → ok' b) (hv : RC B ρ w (okB ρ s.H w) v c) (h : acTree s.H c t) : RT w ok' v t := by
  cases c with
  | t x => cases h; exact RT.keep hv fun b hb => ⟨rfl, hk b hb⟩
  | f x => cases h; exact RT.keep hv fun b hb => ⟨rfl, hk b hb.1⟩
  | nils n =>
    obtain ⟨sz, rfl⟩ := h
    have : v = .slice none 0 0 := hv
    rw [this]
    exact .emp _ _ _ (Nat.zero_le _)
  | nilp => exact h.elim
  | opq => exact h.elim
  | mpv => exact h.elim
  | own q =>
    have hq2 := hq' q (by simp [AC.ids])
    simp only [acTree] at h
    obtain ⟨_, e⟩ := hv
    rw [e]
    split at h
    · rename_i fr sz rows hq
      subst h; exact arr_RT hc hk hq2 hq
    · rename_i sz rows hq
      subst h; exact dar_RT hc hk hq2 hq
    · exact h.elim
  | sub q k =>
    have hq2 := hq' q (by simp [AC.ids])
    simp only [acTree] at h
    obtain ⟨A, n, c, e0, e1, e2⟩ := hv
    rw [e1]
    have fin : ∀ (sz : Nat) (rows : List (List Tr)), RT w ok' (.slice A n c) (.lst sz rows) → n = rows.length → RT w ok' (.slice A k c) (.lst sz (rows.take k)) := by
      intro sz rows hf hn
      have := hf.cut 0 k (Nat.zero_le _) (by omega)
      simp only [Nat.zero_mul, Option.map_id', add_zero', Nat.sub_zero, List.drop_zero] at this
      by_cases h0 : c = 0
      · rw [if_pos h0] at this; exact this
      · rw [if_neg h0] at this; exact this
    split at h
    · rename_i fr sz rows hq
      subst h
      have := arr_RT hc hk hq2 hq
      rw [e0] at this
      obtain ⟨_, _, hs, _⟩ := this.slice_inv
      injection hs with _ hs _
      exact fin _ _ this hs
    · rename_i sz rows hq
      subst h
      have := dar_RT hc hk hq2 hq
      rw [e0] at this
      obtain ⟨_, _, hs, _⟩ := this.slice_inv
      injection hs with _ hs _
      rw [List.map_take]
      exact fin _ _ this hs
    · exact h.elim
  | ptr q off => exact h.elim
theorem acTree_ok (hc : Conc N B M w0 ρ s a w) {v : Value} {c : AC} {t : Tr} (hv : RC B ρ w (okB ρ s.H w) v c) (h : acTree s.H c t) : RT w (fun b => b < w.heap.size) v t :=
  acTree_ok' hc (fun b hb => hb.1.1) (fun q _ x b hq hb => (hc.rng q x b hq hb).1) hv h
theorem acTrees_ok (hc : Conc N B M w0 ρ s a w) : ∀ {vs : List Value} {cs : List AC} {ts : List Tr}, RCs B ρ w (okB ρ s.H w) vs cs → acTrees s.H cs ts → RTs w (fun b => b < w.heap.size) vs ts
  | [], [], [], _, _ => trivial
  | _ :: _, _ :: _, _ :: _, h, h' => ⟨acTree_ok hc h.1 h'.1, acTrees_ok hc h.2 h'.2⟩
  | [], _ :: _, _, h, _ => h.elim
  | _ :: _, [], _, h, _ => h.elim
  | [], [], _ :: _, _, h => h.elim
  | _ :: _, _ :: _, [], _, h => h.elim
theorem argTree_ok (hc : Conc N B M w0 ρ s a w) {v : Value} {x : AV} {t : TV} (hv : RV B ρ w (okB ρ s.H w) v x) (h : argTree s.H x t) : RTV w (fun b => b < w.heap.size) v t := by
  cases x with
  | r ar =>
    cases ar with
    | c c =>
      cases t with
      | c t => exact acTree_ok hc hv h
      | agg => exact h.elim
    | agg cs =>
      cases t with
      | c t => exact h.elim
      | agg ts => obtain ⟨us, rfl, hr⟩ := hv; exact ⟨us, rfl, acTrees_ok hc hr h⟩
  | tup => exact h.elim
  | el => exact h.elim
  | ro => exact h.elim
  | unk => exact h.elim
theorem acTree_congr {H H' : Id → Option AO} {c : AC} {t : Tr} (hH : ∀ o ∈ c.ids, H' o = H o) (h : acTree H c t) : acTree H' c t := by
  cases c <;> simp only [acTree] at h ⊢ <;> first | exact h | (rw [hH _ (by simp [AC.ids])]; exact h)
theorem acTrees_congr {H H' : Id → Option AO} : ∀ {cs : List AC} {ts : List Tr}, (∀ o ∈ cs.flatMap AC.ids, H' o = H o) → acTrees H cs ts → acTrees H' cs ts
  | [], [], _, _ => trivial
  | c :: cs, t :: ts, hH, h => ⟨acTree_congr (fun o ho => hH o (by simp [ho])) h.1, acTrees_congr (fun o ho => hH o (by simp only [List.flatMap_cons, List.mem_append]; exact .inr ho)) h.2⟩
  | [], _ :: _, _, h => h.elim
  | _ :: _, [], _, h => h.elim
theorem argTree_congr {H H' : Id → Option AO} {x : AV} {t : TV} (hH : ∀ o ∈ x.ids, H' o = H o) (h : argTree H x t) : argTree H' x t := by
  cases x with
  | r ar =>
    cases ar with
    | c c => cases t with
      | c t => exact acTree_congr hH h
      | agg => exact h.elim
    | agg cs => cases t with
      | c t => exact h.elim
      | agg ts => exact acTrees_congr hH h
  | tup => exact h.elim
  | el => exact h.elim
  | ro => exact h.elim
  | unk => exact h.elim
theorem args_ok (hc : Conc N B M w0 ρ s a w) : ∀ (xs : List Operand) (ts : List TV), (∀ x ∈ xs, evL s.L x = ev x) → (∀ o ∈ (xs.map ev).flatMap AV.ids, s.H o = H o) → argTrees H (xs.map ev) ts → RTVs w (fun b => b < w.heap.size) (xs.map a.eval) ts
  | [], [], _, _, _ => trivial
  | x :: xs, t :: ts, hx, hH, h => by
    refine ⟨argTree_ok hc (x := ev x) ?_ (argTree_congr (fun o ho => hH o (by simp [ho])) h.1), args_ok hc xs ts (fun y hy => hx y (by simp [hy])) (fun o ho => hH o (by simp only [List.map_cons, List.flatMap_cons, List.mem_append]; exact .inr ho)) h.2⟩
    have := (hc.eval x).1
    rwa [hx x (by simp)] at this
  | [], _ :: _, _, _, h => h.elim
  | _ :: _, [], _, _, h => h.elim
theorem oss_mem {d i j : Nat} {cs : List RC'} {o : Id} {x : AO} (h : (o, x) ∈ RC'.oss d i j cs) : o.1 = d ∧ ((0, o.2), x) ∈ RC'.oss 0 i j cs := by
  induction cs generalizing j with
  | nil => simp [RC'.oss] at h
  | cons c cs ih =>
    simp only [RC'.oss, List.mem_append] at h ⊢
    rcases h with h | h
    · cases c with
      | t x => simp [RC'.os] at h
      | arr sz rows => simp only [RC'.os, List.mem_singleton, Prod.mk.injEq] at h; obtain ⟨rfl, rfl⟩ := h; exact ⟨rfl, .inl (by simp [RC'.os])⟩
    · exact ⟨(ih h).1, .inr (ih h).2⟩
theorem ros_mem {d i : Nat} {x : RR'} {o : Id} {y : AO} (h : (o, y) ∈ x.os d i) : o.1 = d ∧ ((0, o.2), y) ∈ x.os 0 i := by
  cases x with
  | c c => cases c with
    | t x => simp [RR'.os, RC'.os] at h
    | arr sz rows => simp only [RR'.os, RC'.os, List.mem_singleton, Prod.mk.injEq] at h; obtain ⟨rfl, rfl⟩ := h; exact ⟨rfl, by simp [RR'.os, RC'.os]⟩
  | agg cs => exact oss_mem h
theorem ross_mem {d i : Nat} {xs : List RR'} {o : Id} {y : AO} (h : (o, y) ∈ RR'.oss d i xs) : o.1 = d ∧ ((0, o.2), y) ∈ RR'.oss 0 i xs := by
  induction xs generalizing i with
  | nil => simp [RR'.oss] at h
  | cons x xs ih =>
    simp only [RR'.oss, List.mem_append] at h ⊢
    rcases h with h | h
    · exact ⟨(ros_mem h).1, .inl (ros_mem h).2⟩
    · exact ⟨(ih h).1, .inr (ih h).2⟩
theorem res_mem {d : Nat} {r : Res} {o : Id} {y : AO} (h : (o, y) ∈ r.os d) : o.1 = d ∧ ((0, o.2), y) ∈ r.os 0 := by
  cases r with
  | r x => exact ros_mem h
  | tup xs => exact ross_mem h
theorem ac_turn {B' d i j : Nat} {c : RC'} {v : Value} {ok ok' : Nat → Prop} (hρ : ∀ q : Nat × Nat, ρ' (d, q) = ρ (0, q)) (hk : ∀ b, ok b → ok' b) (h : RC B' ρ w ok v (c.ac 0 i j)) : RC B ρ' w ok' v (c.ac d i j) := by
  cases c with
  | t x => exact RT.keep h fun b hb => ⟨rfl, hk b hb⟩
  | arr sz rows => obtain ⟨⟨A, n, c, e⟩, e1⟩ := h; exact ⟨⟨A, n, c, (hρ (i, j)).trans e⟩, e1.trans (hρ (i, j)).symm⟩
theorem acs_turn {B' d i : Nat} {ok ok' : Nat → Prop} (hρ : ∀ q : Nat × Nat, ρ' (d, q) = ρ (0, q)) (hk : ∀ b, ok b → ok' b) : ∀ {cs : List RC'} {j : Nat} {vs : List Value}, RCs B' ρ w ok vs (RC'.acs 0 i j cs) → RCs B ρ' w ok' vs (RC'.acs d i j cs)
  | [], _, [], _ => trivial
  | _ :: _, _, _ :: _, h => ⟨ac_turn hρ hk h.1, acs_turn hρ hk h.2⟩
  | [], _, _ :: _, h => h.elim
  | _ :: _, _, [], h => h.elim
theorem ar_turn {B' d i : Nat} {x : RR'} {v : Value} {ok ok' : Nat → Prop} (hρ : ∀ q : Nat × Nat, ρ' (d, q) = ρ (0, q)) (hk : ∀ b, ok b → ok' b) (h : RR B' ρ w ok v (x.ar 0 i)) : RR B ρ' w ok' v (x.ar d i) := by
  cases x with
  | c c => exact ac_turn hρ hk h
  | agg cs => obtain ⟨us, e, h⟩ := h; exact ⟨us, e, acs_turn hρ hk h⟩
theorem ars_turn {B' d : Nat} {ok ok' : Nat → Prop} (hρ : ∀ q : Nat × Nat, ρ' (d, q) = ρ (0, q)) (hk : ∀ b, ok b → ok' b) : ∀ {xs : List RR'} {i : Nat} {vs : List Value}, RRs B' ρ w ok vs (RR'.ars 0 i xs) → RRs B ρ' w ok' vs (RR'.ars d i xs)
  | [], _, [], _ => trivial
  | _ :: _, _, _ :: _, h => ⟨ar_turn hρ hk h.1, ars_turn hρ hk h.2⟩
  | [], _, _ :: _, h => h.elim
  | _ :: _, _, [], h => h.elim
theorem av_turn {B' d : Nat} {r : Res} {v : Value} {ok ok' : Nat → Prop} (hρ : ∀ q : Nat × Nat, ρ' (d, q) = ρ (0, q)) (hk : ∀ b, ok b → ok' b) (h : RV B' ρ w ok v (r.av 0)) : RV B ρ' w ok' v (r.av d) := by
  cases r with
  | r x => exact ar_turn hρ hk h
  | tup xs => obtain ⟨us, e, h⟩ := h; exact ⟨us, e, ars_turn hρ hk h⟩
theorem ac_ids (d i j : Nat) (c : RC') : ∀ id ∈ (c.ac d i j).ids, id.1 = d := by
  cases c with
  | t x => simp [RC'.ac, AC.ids]
  | arr sz rows => intro id hid; simp [RC'.ac, AC.ids] at hid; rw [hid]
theorem acs_ids (d i : Nat) : ∀ (cs : List RC') (j : Nat), ∀ id ∈ (RC'.acs d i j cs).flatMap AC.ids, id.1 = d
  | [], _, id, hid => by simp [RC'.acs] at hid
  | c :: cs, j, id, hid => by
    simp only [RC'.acs, List.flatMap_cons, List.mem_append] at hid
    rcases hid with hid | hid
    · exact ac_ids d i j c id hid
    · exact acs_ids d i cs (j + 1) id hid
theorem ar_ids' (d i : Nat) (x : RR') : ∀ id ∈ (x.ar d i).ids, id.1 = d := by
  cases x with
  | c c => exact ac_ids d i 0 c
  | agg cs => exact acs_ids d i cs 0
theorem ars_ids (d : Nat) : ∀ (xs : List RR') (i : Nat), ∀ id ∈ (RR'.ars d i xs).flatMap AR.ids, id.1 = d
  | [], _, id, hid => by simp [RR'.ars] at hid
  | c :: cs, i, id, hid => by
    simp only [RR'.ars, List.flatMap_cons, List.mem_append] at hid
    rcases hid with hid | hid
    · exact ar_ids' d i c id hid
    · exact ars_ids d cs (i + 1) id hid
theorem av_ids (d : Nat) (r : Res) : ∀ id ∈ (r.av d).ids, id.1 = d := by
  cases r with
  | r x => exact ar_ids' d 0 x
  | tup xs => exact ars_ids d xs 0
theorem oss_arr {d i : Nat} {cs : List RC'} {j : Nat} {o : Id} {x : AO} (h : (o, x) ∈ RC'.oss d i j cs) : ∃ sz rows, x = .arr true sz rows := by
  induction cs generalizing j with
  | nil => simp [RC'.oss] at h
  | cons c cs ih =>
    simp only [RC'.oss, List.mem_append] at h
    rcases h with h | h
    · cases c with
      | t x => simp [RC'.os] at h
      | arr sz rows => simp only [RC'.os, List.mem_singleton, Prod.mk.injEq] at h; exact ⟨sz, rows, h.2⟩
    · exact ih h
theorem ros_arr {d i : Nat} {y : RR'} {o : Id} {x : AO} (h : (o, x) ∈ y.os d i) : ∃ sz rows, x = .arr true sz rows := by
  cases y with
  | c c => cases c with
    | t x => simp [RR'.os, RC'.os] at h
    | arr sz rows => simp only [RR'.os, RC'.os, List.mem_singleton, Prod.mk.injEq] at h; exact ⟨sz, rows, h.2⟩
  | agg cs => exact oss_arr h
theorem ross_arr {d i : Nat} {xs : List RR'} {o : Id} {x : AO} (h : (o, x) ∈ RR'.oss d i xs) : ∃ sz rows, x = .arr true sz rows := by
  induction xs generalizing i with
  | nil => simp [RR'.oss] at h
  | cons y xs ih =>
    simp only [RR'.oss, List.mem_append] at h
    rcases h with h | h
    · exact ros_arr h
    · exact ih h
theorem res_arr {d : Nat} {r : Res} {o : Id} {x : AO} (h : (o, x) ∈ r.os d) : ∃ sz rows, x = .arr true sz rows := by
  cases r with
  | r x => exact ros_arr h
  | tup xs => exact ross_arr h
theorem updH_some : ∀ (us : List (Id × AO)) (H : Id → Option AO) (o : Id) (x : AO), updH H (us.map fun p => (p.1, some p.2)) o = some x → (o, x) ∈ us ∨ (o ∉ us.map (·.1) ∧ H o = some x)
  | [], H, o, x, h => .inr ⟨by simp, h⟩
  | p :: us, H, o, x, h => by
    simp only [List.map_cons, updH] at h
    rcases updH_some us _ o x h with h' | ⟨h1, h2⟩
    · exact .inl (by simp [h'])
    · by_cases e : o = p.1
      · rw [if_pos e] at h2
        injection h2 with h2
        left
        rw [e, ← h2]
        simp
      · rw [if_neg e] at h2
        exact .inr ⟨by simp only [List.map_cons, List.mem_cons, e, false_or]; exact h1, h2⟩
theorem Conc.result (h : Conc N B M w0 ρ s a w) {d : Nat} (hd : d < N) (hU : ¬ s.U d) {r : Res} {v : Value} (hb : Below w.heap.size w w') (hr : ResOK w.heap.size w' v r) (R : List Id) :
    ∃ ρ', Conc N B M w0 ρ' (s.app (some d) ⟨r.av d, r.us d, some d, R⟩) (a.put (some d) v) w' := by
  obtain ⟨ρr, okp, hokp, hrv, hobj, hsep⟩ := hr
  let ρ' : Rho := ⟨fun o => if o.1 = d then ρr (0, o.2) else ρ o, fun o c => o.1 ≠ d ∧ ρ.fp o c, ρ.al⟩
  have hρ : ∀ o : Id, s.U o.1 → ρ' o = ρ o := fun o ho => if_neg (fun e : o.1 = d => hU (by rw [← e]; exact ho))
  have hnew : ∀ q : Nat × Nat, ρ' (d, q) = ρr (0, q) := fun q => if_pos rfl
  have hown1 : ∀ o b, o.1 = d → Own ρ' o b → blk (ρr (0, o.2)) = some b := fun o b e h1 => by
    rcases h1 with h1 | h1
    · have : ρ' o = ρr (0, o.2) := if_pos e
      rwa [this] at h1
    · exact absurd e h1.1
  have hown2 : ∀ o b, s.U o.1 → Own ρ' o b → Own ρ o b := fun o b e h1 => by
    rcases h1 with h1 | h1
    · rw [hρ o e] at h1; exact .inl h1
    · exact .inr h1.2
  have hT : Turn (fun _ => False) w w' := ⟨hb.os, hb.tape, hb.output, hb.size, fun k hk _ => hb.block k hk⟩
  have hH : ∀ o x, updH s.H (r.us d) o = some x → (o, x) ∈ r.os d ∨ (o ∉ (r.os d).map (·.1) ∧ s.H o = some x) := fun o x ho => updH_some (r.os d) s.H o x ho
  have hok : ∀ b, okp b → okB ρ' (updH s.H (r.us d)) w' b := by
    intro b hb'
    refine ⟨⟨(hokp b hb').1, h.alw b (.inl (Nat.le_trans h.base (hokp b hb').2))⟩, fun o x ho he => ?_⟩
    rcases hH o x ho with h1 | ⟨_, h1⟩
    · obtain ⟨g1, g2⟩ := res_mem h1
      exact ((hobj _ _ g2).2 b (hown1 o b g1 he)).2.2 hb'
    · have := (h.rng o x b h1 (hown2 o b (h.usedH o x h1).1 he)).1
      have := (hokp b hb').2
      omega
  refine ⟨ρ', ?_⟩
  have := h.step (fun _ => False) ((r.os d).map (·.1)) (w' := w') (ρ' := ρ') (H' := updH s.H (r.us d)) (U' := fun n => s.U n ∨ n = d) (a' := a.put (some d) v) (L' := putL s.L (some d) (r.av d)) hT (by rw [put_size]; exact h.size) (by rw [put_defers]; exact h.defers) hρ
    (fun o x _ ho => by
      funext c
      have : o.1 ≠ d := fun e => hU (by rw [← e]; exact (h.usedH o x ho).1)
      exact propext ⟨fun h => h.2, fun h => ⟨this, h⟩⟩) rfl
    (fun o ho => updH_other _ _ o (by simpa [Res.us] using ho)) (fun n hn => .inl hn) (fun _ _ h => h) (fun _ _ _ _ _ _ h => h) (fun _ _ _ h => h)
    (fun o x b h1 h2 h3 => by
      rcases hH o x h2 with g | ⟨g, _⟩
      · obtain ⟨g1, g2⟩ := res_mem g
        have := (hobj _ _ g2).2 b (hown1 o b g1 h3)
        exact ⟨this.2.1, .inl (Nat.le_trans h.base this.1), .inl this.1⟩
      · exact absurd h1 g)
    (fun o o' x x' b h1 h2 h3 h4 hne h5 h6 => by
      rcases hH o x h3 with g | ⟨g, _⟩
      · rcases hH o' x' h4 with g' | ⟨g', _⟩
        · obtain ⟨e1, e2⟩ := res_mem g
          obtain ⟨e3, e4⟩ := res_mem g'
          refine hsep _ _ _ _ e2 e4 (fun he => hne ?_) b (hown1 o b e1 h5) (hown1 o' b e3 h6)
          have : o.2 = o'.2 := congrArg (·.2) he
          exact Prod.ext (e1.trans e3.symm) this
        · exact absurd h2 g'
      · exact absurd h1 g)
    (fun hk o x h1 h2 => by
      rcases hH o x h2 with g | ⟨g, _⟩
      · obtain ⟨g1, g2⟩ := res_mem g
        have e : ρ' o = ρr (0, o.2) := if_pos g1
        have hx := (hobj _ _ g2).1
        refine ⟨?_, .inr g1, ?_⟩
        · obtain ⟨sz, rows, rfl⟩ := res_arr g2
          obtain ⟨hu, hx⟩ := hx
          refine ⟨hu, ?_⟩
          rcases hx with ⟨k1, k2⟩ | ⟨b, cap, cur, e', fz, k1, k2, k3, k4, k5, k6, k7, k8⟩
          · exact .inl ⟨by rw [e]; exact k1, k2⟩
          · exact .inr ⟨b, cap, cur, e', fz, by rw [e]; exact k1, k2, k3, k4, k5, k6, k7.keep (fun c hc' => ⟨rfl, hok c hc'.1, fun e => Nat.le_trans h.base (hc'.2 e)⟩), fun e => Nat.le_trans h.base (k8 e)⟩
        · obtain ⟨sz, rows, rfl⟩ := res_arr g2; simp [AO.ids]
      · exact absurd h1 g)
    (fun hk t => h.slots (dst := some d) (fun d' e => by injection e with e; omega) (U' := fun n => s.U n ∨ n = d) (av_turn hnew hok hrv) (fun id hid => .inr (av_ids d r id hid)) t)
  exact this.congr (fun _ => rfl) (fun _ => rfl) (fun n => by simp [F_.app, eq_comm])
theorem sound_call {f : FuncId} {args : Array Operand} {argTypes : Array TypeId} {d : Nat} (hdst : o.dst = some d) (ho : o.op = .call { callee := .value (.func f), args, argTypes }) {ts : List TV} {r : Res} (ha : argTrees H (args.toList.map ev) ts) (hs : Spec P f ts r) :
    Good P o ev H ⟨r.av d, r.us d, some d, (args.toList.map ev).flatMap AV.ids⟩ := by
  intro N B M w0 ρ s a w Q K hc hop hR hn hd hK
  rw [hdst] at hd hK
  have hargs := args_ok hc args.toList ts (fun x hx => hop x (by simp only [ho, Op.operands, Call.operands, Array.toList_append, List.mem_append]; exact .inr hx)) hR ha
  have hcalls := hs.2 w (args.map a.eval) (by simpa using hargs)
  have hrun : (execOp a.eval o).run P w = .ok (.enter f (args.map a.eval)) w := by
    have he : a.eval (.func f) = .func (.func f) #[] #[] := rfl
    simp [execOp, ho, resolve, he, Deferred.ofValue, invoke, hs.1 _ _]
  unfold Oper.wp
  rw [hrun]
  show Calls P f (args.map a.eval) w _
  refine hcalls.mono fun e w' ⟨v, he, hb, hr⟩ => ?_
  subst he
  obtain ⟨ρ', h'⟩ := hc.result (hd d rfl) (hn d rfl) hb hr ((args.toList.map ev).flatMap AV.ids)
  show K (a.put o.dst v) w'
  rw [hdst]
  exact hK _ _ ρ' h'
theorem sound_call_drop {f : FuncId} {args : Array Operand} {argTypes : Array TypeId} (hdst : o.dst = none) (ho : o.op = .call { callee := .value (.func f), args, argTypes }) {ts : List TV} {r : Res} (ha : argTrees H (args.toList.map ev) ts) (hs : Spec P f ts r) :
    Good P o ev H ⟨.unk, [], none, (args.toList.map ev).flatMap AV.ids⟩ := by
  intro N B M w0 ρ s a w Q K hc hop hR hn hd hK
  rw [hdst] at hd hK
  have hargs := args_ok hc args.toList ts (fun x hx => hop x (by simp only [ho, Op.operands, Call.operands, Array.toList_append, List.mem_append]; exact .inr hx)) hR ha
  have hcalls := hs.2 w (args.map a.eval) (by simpa using hargs)
  have hrun : (execOp a.eval o).run P w = .ok (.enter f (args.map a.eval)) w := by
    have he : a.eval (.func f) = .func (.func f) #[] #[] := rfl
    simp [execOp, ho, resolve, he, Deferred.ofValue, invoke, hs.1 _ _]
  unfold Oper.wp
  rw [hrun]
  show Calls P f (args.map a.eval) w _
  refine hcalls.mono fun e w' ⟨v, he, hb, hr⟩ => ?_
  subst he
  show K (a.put o.dst v) w'
  rw [hdst]
  refine hK v w' ρ ?_
  have hT : Turn (fun _ => False) w w' := ⟨hb.os, hb.tape, hb.output, hb.size, fun k hk _ => hb.block k hk⟩
  have := hc.step (fun _ => False) [] (w' := w') (ρ' := ρ) (H' := s.H) (U' := s.U) (a' := a) (L' := s.L) hT hc.size hc.defers
    (fun _ _ => rfl) (fun _ _ _ _ => rfl) rfl (fun _ _ => rfl) (fun _ h => h) (fun _ _ h => h) (fun _ _ _ _ _ _ h => h) (fun _ _ _ h => h) (by simp) (by simp) (by simp) (fun _ t => .inl ⟨rfl, rfl⟩)
  exact this.congr (fun _ => rfl) (fun _ => rfl) (fun n => by simp [F_.app])
end
end Go.Sim
