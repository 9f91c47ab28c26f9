/- A function: from the proposition that its code unfolds to, to its contract. -/
import Derived.Test.YtehniaekfijmiaaSimL
namespace Go.Sim
open Go.RowKit
def TV.av : TV → AV
  | .c x => .r (.c (.t x))
  | .agg xs => .r (.agg (xs.map .t))
def enumF : Nat → List TV → List (Nat × AV)
  | _, [] => []
  | i, t :: ts => (i, t.av) :: enumF (i + 1) ts
def st0 (ts : List TV) : St := ⟨enumF 0 ts, [], []⟩
def freshC : AC → Prop
  | .t x => (match x with
     | .lst _ _ => False
     | _ => True)
  | _ => True
def freshCs : List AC → Prop
  | [] => True
  | c :: cs => freshC c ∧ freshCs cs
def freshR : AR → Prop
  | .c x => freshC x
  | .agg cs => freshCs cs
def freshRs : List AR → Prop
  | [] => True
  | c :: cs => freshR c ∧ freshRs cs
def idsApart : List (Id × AO) → Bool
  | [] => true
  | (o, _) :: l => !(l.any fun p => idEq o p.1) && idsApart l
def resV (Γ : Env) (st : St) : ResultVar → Option AR
  | .tmp t => (match look st.fr t with
     | .r x => some x
     | _ => none)
  | .cell a T => (match look st.fr a, Γ.get T with
     | .r (.c (.ptr o 0)), some ti => (match hget st.h o with
        | some (.box cells) => (match ti.agg, Nat.beq cells.length ti.size, cells with
           | true, true, cs => some (.agg cs)
           | false, true, [c] => some (.c c)
           | _, _, _ => none)
        | _ => none)
     | _, _ => none)
def resVs (Γ : Env) (st : St) : List ResultVar → Option (List AR)
  | [] => some []
  | rv :: rvs => (match resV Γ st rv, resVs Γ st rvs with
     | some x, some xs => some (x :: xs)
     | _, _ => none)
def finV (v : AV) (st : St) (r : Res) : Prop := idsApart (r.os 0) = true ∧ Leq true ⟨[(0, v)], st.h, st.u⟩ ⟨[(0, r.av 0)], r.us 0, [0]⟩
def fin0 (Γ : Env) (rvs : List ResultVar) (r : Res) (st : St) : Prop :=
  match resVs Γ st rvs with
  | some [x] => freshR x ∧ finV (.r x) st r
  | some xs => freshRs xs ∧ finV (.tup xs) st r
  | none => False
def fin (Γ : Env) (rvs : List ResultVar) (st : St) (r : Res) : Prop := closeAll (holesOf st.h []) st (fin0 Γ rvs r)
def doneK (Γ : Env) (rvs : List ResultVar) (r : Res) : Out → St → Prop
  | .exit _, _ => False
  | _, st => fin Γ rvs st r
def finG0 (Γ : Env) (rvs : List ResultVar) (r : AV) (h1 : List (Id × AO)) (st : St) : Prop :=
  match resVs Γ st rvs with
  | some [x] => Leq false ⟨[(0, .r x)], st.h, st.u⟩ ⟨[(0, r)], h1.map (fun p => (p.1, some p.2)), [1, 0]⟩
  | some xs => Leq false ⟨[(0, .tup xs)], st.h, st.u⟩ ⟨[(0, r)], h1.map (fun p => (p.1, some p.2)), [1, 0]⟩
  | none => False
def doneG (Γ : Env) (rvs : List ResultVar) (r : AV) (h1 : List (Id × AO)) : Out → St → Prop
  | .exit _, _ => False
  | _, st => closeAll (holesOf st.h []) st (finG0 Γ rvs r h1)
structure Obl (p : Prop) : Prop where
  out : p
theorem call_intro {P : Program} {f : FuncId} {H : Id → Option AO} {xs : List AV} {ts : List TV} {r : Res} {K : List TV → Res → Prop} (h : Sim.Spec P f ts r) (h1 : argTrees H xs ts) (h2 : K ts r) : ∃ ts r, argTrees H xs ts ∧ Sim.Spec P f ts r ∧ K ts r :=
  ⟨ts, r, h1, h, h2⟩
theorem callG_intro {P : Program} {f : FuncId} {nm : Nat} {args : List AV} {H : Id → Option AO} {K : Eff → Prop} {X : Prop} {xs : List AV} {h0 : List (Id × AO)} {r : AV} {h1 : List (Id × AO)} (h : SpecG P f xs h0 r h1)
    (h2 : maVs H [] [] args xs fun θ bw => maO H θ bw h0 fun θ bw => (okI θ bw h0 && okJ h0 r h1 && (bw.isEmpty || (newV r && newO h1))) = true ∧ K ⟨r.re θ nm, usG θ nm h1, some nm, (θ.map (·.2)) ++ (bw ++ args.flatMap AV.ids)⟩) : X ∨ semG P f nm args H K :=
  .inr ⟨xs, h0, r, h1, h, h2⟩
section
variable {P : Program} {Γ : Env} {N B : Nat} {M : Nat → Prop} {w0 : Start} {w : World} {ρ : Rho} {st st' : St} {a : Act}
theorem freshC_ok {ok : Nat → Prop} {v : Value} {x : AC} (h : freshC x) (hv : RC B ρ w ok v x) : RC B ρ w (okF B ok true) v x := by
  cases x with
  | t x =>
    cases x with
    | lst => exact h.elim
    | int k n => exact RT.flat hv (by simp)
    | bool b => exact RT.flat hv (by simp)
    | str b => exact RT.flat hv (by simp)
  | f x => exact RT.up (show RT w (okF B ok true) v x from hv) fun b hb => ⟨hb, hb.2⟩
  | nils sz => exact hv
  | nilp => exact hv
  | own o => exact hv
  | sub o k => exact hv
  | ptr o k => exact hv
  | opq => exact hv
  | mpv o => exact hv
theorem freshCs_ok {ok : Nat → Prop} : ∀ {vs : List Value} {xs : List AC}, freshCs xs → RCs B ρ w ok vs xs → RCs B ρ w (okF B ok true) vs xs
  | [], [], _, _ => trivial
  | _ :: _, _ :: _, h, hv => ⟨freshC_ok h.1 hv.1, freshCs_ok h.2 hv.2⟩
  | [], _ :: _, _, h => h.elim
  | _ :: _, [], _, h => h.elim
theorem freshR_ok {ok : Nat → Prop} {v : Value} {x : AR} (h : freshR x) (hv : RR B ρ w ok v x) : RR B ρ w (okF B ok true) v x := by
  cases x with
  | c x => exact freshC_ok h hv
  | agg cs => obtain ⟨us, e, hu⟩ := hv; exact ⟨us, e, freshCs_ok h hu⟩
theorem freshRs_ok {ok : Nat → Prop} : ∀ {vs : List Value} {xs : List AR}, freshRs xs → RRs B ρ w ok vs xs → RRs B ρ w (okF B ok true) vs xs
  | [], [], _, _ => trivial
  | _ :: _, _ :: _, h, hv => ⟨freshR_ok h.1 hv.1, freshRs_ok h.2 hv.2⟩
  | [], _ :: _, _, h => h.elim
  | _ :: _, [], _, h => h.elim
theorem idsApart_get : ∀ {l : List (Id × AO)} {o : Id} {x : AO}, idsApart l = true → (o, x) ∈ l → hget (l.map fun p => (p.1, some p.2)) o = some x
  | [], _, _, _, h => by cases h
  | (i, y) :: l, o, x, h, hm => by
    simp only [idsApart, Bool.and_eq_true, Bool.not_eq_true', List.any_eq_false] at h
    rw [List.map_cons, hget]
    rcases List.mem_cons.1 hm with he | hm2
    · injection he with e1 e2; subst e1; subst e2; rw [idEq_iff.2 rfl]; rfl
    · cases hb : idEq o i with
      | true => have := idEq_iff.1 hb; subst this; exact absurd (idEq_iff.2 rfl) (h.1 (o, x) hm2)
      | false => exact idsApart_get h.2 hm2
theorem Conc.alone (hc : Conc N B M w0 ρ st.fs a w) {v : Value} {x : AV} (hv : RV B ρ w (okB ρ st.fs.H w) v x) (hi : ∀ o ∈ x.ids, st.fs.U o.1) : Conc 1 B M w0 ρ (St.fs ⟨[(0, x)], st.h, st.u⟩) ⟨#[v], []⟩ w := by
  refine ⟨rfl, rfl, fun t => ?_, hc.obj, hc.sep, hc.rng, hc.keep, hc.base, hc.alw, hc.cst, hc.fix, fun t o ho => ?_, hc.usedH⟩
  · show RV _ _ _ _ _ (bif Nat.beq t 0 then x else .unk)
    cases t with
    | zero => exact hv
    | succ t => trivial
  · have ho : o ∈ (bif Nat.beq t 0 then x else .unk).ids := ho
    cases t with
    | zero => exact hi o ho
    | succ t => have : o ∈ AV.ids .unk := ho; simp [AV.ids] at this
theorem finV_ok {r : Res} {v : Value} {x : AV} (hM : ∀ b, ¬ M b) (hX : ∀ o, w0.fx o = none) (hc : Conc N B M w0 ρ st.fs a w) (h : finV x st r) (hv : RV B ρ w (okB ρ st.fs.H w) v x) (hv' : RV B ρ w (okF B (okB ρ st.fs.H w) true) v x) (hi : ∀ o ∈ x.ids, st.fs.U o.1) : ResOK B w v r := by
  obtain ⟨h1, h2⟩ := h
  obtain ⟨ρ', hc', hk, hS⟩ := h2.ok' (M := M) (fun _ => ⟨hM, hX⟩) (fun o v hv => by rw [hX] at hv; cases hv) (hc.alone hv hi)
  have hget : ∀ o y, (o, y) ∈ r.os 0 → (St.fs ⟨[(0, r.av 0)], r.us 0, [0]⟩).H o = some y := fun o y hm => idsApart_get h1 hm
  refine ⟨ρ', okF B (okB ρ' (St.fs ⟨[(0, r.av 0)], r.us 0, [0]⟩).H w) true, fun b hb => ⟨hb.1.1.1, hb.2 rfl⟩, ?_, fun o y hm => ?_, fun o o' y y' hm hm' hne b hb hb' => hc'.sep o o' y y' b (hget o y hm) (hget o' y' hm') hne (.inl hb) (.inl hb')⟩
  · exact hS 0 v _ _ (fun b hb => ⟨hk b hb.1, hb.2⟩) hv'
  · have ho := hget o y hm
    obtain ⟨sz, rows, rfl⟩ := res_arr hm
    refine ⟨?_, fun b hb => ?_⟩
    · obtain ⟨hu, hro⟩ := hc'.obj o _ ho
      refine ⟨hu, ?_⟩
      rcases hro with h | ⟨b, cap, cur, e, fz, k1, k2, k3, k4, k5, k6, k7, k8⟩
      · exact .inl h
      · exact .inr ⟨b, cap, cur, e, fz, k1, k2, k3, k4, k5, k6, k7.keep fun b hb => ⟨rfl, hb, hb.2⟩, k8⟩
    · have := hc'.rng o _ b ho (.inl hb)
      refine ⟨this.2.resolve_right (hM b), this.1, fun hok => hok.1.2 o _ ho (.inl hb)⟩
abbrev resRun (tmps : Array Value) (rv : ResultVar) : Sem Value := match rv with
  | .tmp t => pure (tmps.getD t undef)
  | .cell a t => do loadVar t (← asAddr (tmps.getD a undef))
theorem resV_ok (hΓ : Γ.chk P = true) (hc : Conc N B M w0 ρ st.fs a w) {rv : ResultVar} {x : AR} (h : resV Γ st rv = some x) :
    ∃ v, (resRun a.tmps rv).run P w = .ok v w ∧ RR B ρ w (okB ρ st.fs.H w) v x ∧ ∀ o ∈ x.ids, st.fs.U o.1 := by
  cases rv with
  | tmp t =>
    simp only [resV] at h
    split at h
    · rename_i y hy
      injection h with h; subst h
      have hs := hc.slot t
      rw [show st.fs.L t = .r y from hy] at hs
      exact ⟨_, rfl, hs, fun o ho => hc.usedL t o (by rw [show st.fs.L t = .r y from hy]; exact ho)⟩
    · cases h
  | cell t T =>
    simp only [resV] at h
    split at h
    · rename_i o ti hl hT
      split at h
      · rename_i cells hh
        obtain ⟨i, d, fit⟩ := Env.fit hΓ hT
        obtain ⟨b, us, t', fz, g1, g2, g3, g4, g5⟩ := hc.box (q := o) hh
        have hs := hc.slot t
        rw [show st.fs.L t = .r (.c (.ptr o 0)) from hl] at hs
        obtain ⟨b', e1, e2⟩ := hs
        rw [g1] at e1
        injection e1 with e1; injection e1 with e1; injection e1 with e1
        subst e1
        have hids : ∀ o' ∈ cells.flatMap AC.ids, st.fs.U o'.1 := (hc.usedH o _ hh).2
        have hadr : (asAddr (a.tmps.getD t undef)).run P w = .ok (⟨b, 0, none⟩ : Addr) w := by rw [e2]; rfl
        split at h
        · rename_i cs ha hb
          injection h with h; subst h
          have hlen : us.toList.length = ti.size := by rw [g4.length]; simpa using hb
          have h1 := run_loadCells_list (P := P) w ⟨b, 0, none⟩ us.toList g5
          rw [hlen, ← fit.size] at h1
          refine ⟨.agg us.toList.toArray, ?_, ⟨_, rfl, by simpa using g4⟩, hids⟩
          simp only [resRun, Sem.run_bind, hadr, Result.andThen_ok]
          simp [loadVar, run_isAgg fit.und, fit.agg, ha, run_sizeOf fit.info, h1]
        · rename_i c ha hb
          injection h with h; subst h
          obtain ⟨u, hu, hru⟩ := g4.get 0 c rfl
          have hcell := g5 0 u hu
          rw [add_zero'] at hcell
          refine ⟨u, ?_, hru, fun o ho => hids o (by simpa using (show o ∈ c.ids from ho))⟩
          simp only [resRun, Sem.run_bind, hadr, Result.andThen_ok]
          simp [loadVar, run_isAgg fit.und, fit.agg, ha, run_load, hcell]
        · cases h
      · cases h
    · cases h
theorem resVs_ok (hΓ : Γ.chk P = true) (hc : Conc N B M w0 ρ st.fs a w) : ∀ {rvs : List ResultVar} {xs : List AR}, resVs Γ st rvs = some xs →
    ∃ vs, (rvs.mapM (resRun a.tmps)).run P w = .ok vs w ∧ RRs B ρ w (okB ρ st.fs.H w) vs xs ∧ ∀ o ∈ xs.flatMap AR.ids, st.fs.U o.1
  | [], xs, h => by
    simp only [resVs, Option.some.injEq] at h
    subst h
    exact ⟨[], by simp, trivial, by simp⟩
  | rv :: rvs, xs, h => by
    simp only [resVs] at h
    split at h
    · rename_i x xs' h1 h2
      injection h with h; subst h
      obtain ⟨v, g1, g2, g3⟩ := resV_ok hΓ hc h1
      obtain ⟨vs, g4, g5, g6⟩ := resVs_ok hΓ hc h2
      refine ⟨v :: vs, ?_, ⟨g2, g5⟩, fun o ho => ?_⟩
      · rw [List.mapM_cons, Sem.run_bind, g1, Result.andThen_ok, Sem.run_bind, g4, Result.andThen_ok, Sem.run_pure]
      · simp only [List.flatMap_cons, List.mem_append] at ho
        exact ho.elim (g3 o) (g6 o)
    · cases h
theorem results_run {fn : Func} {a : Act} {vs : List Value} (hvs : (fn.results.toList.mapM (resRun a.tmps)).run P w = .ok vs w) : (results fn a.tmps).run P w = .ok (if h : vs.length = 1 then vs[0] else .tuple vs.toArray) w := by
  unfold results
  rw [show fn.results = fn.results.toList.toArray by simp]
  simp only [List.mapM_toArray, bind_map_left, Sem.run_bind]
  refine (congrArg (fun x => Result.andThen x _) hvs).trans ?_
  simp only [Result.andThen_ok, Sem.run_pure, List.size_toArray, List.getElem_toArray]
theorem fin0_ok {r : Res} {fn : Func} (hΓ : Γ.chk P = true) (hM : ∀ b, ¬ M b) (hX : ∀ o, w0.fx o = none) (hc : Conc N B M w0 ρ st.fs a w) (h : fin0 Γ fn.results.toList r st) :
    ∃ v, (results fn a.tmps).run P w = .ok v w ∧ ResOK B w v r := by
  unfold fin0 at h
  split at h
  · rename_i x hx
    obtain ⟨vs, g1, g2, g3⟩ := resVs_ok hΓ hc hx
    match vs, g2 with
    | [v], g2 =>
      refine ⟨_, results_run g1, ?_⟩
      simp only [List.length_cons, List.length_nil, Nat.zero_add, dite_true, List.getElem_cons_zero]
      exact finV_ok hM hX hc h.2 g2.1 (freshR_ok h.1 g2.1) fun o ho => g3 o (by simpa using (show o ∈ x.ids from ho))
    | [], g2 => exact g2.elim
    | _ :: _ :: _, g2 => exact g2.2.elim
  · rename_i xs hne hx
    obtain ⟨vs, g1, g2, g3⟩ := resVs_ok hΓ hc hx
    refine ⟨_, results_run g1, ?_⟩
    have hl : ¬ vs.length = 1 := by
      intro hl
      obtain ⟨v, rfl⟩ := List.length_eq_one_iff.1 hl
      match xs, g2, hne with
      | [x], _, hne => exact hne x rfl
      | [], g2, _ => exact g2.elim
      | _ :: _ :: _, g2, _ => exact g2.2.elim
    rw [dif_neg hl]
    exact finV_ok hM hX hc h.2 ⟨_, rfl, by simpa using g2⟩ ⟨_, rfl, by simpa using freshRs_ok h.1 g2⟩ g3
  · exact h.elim
theorem fin_ok {r : Res} {fn : Func} (hΓ : Γ.chk P = true) (hM : ∀ b, ¬ M b) (hX : ∀ o, w0.fx o = none) (hc : Conc N B M w0 ρ st.fs a w) (h : fin Γ fn.results.toList st r) :
    ∃ v, (results fn a.tmps).run P w = .ok v w ∧ ResOK B w v r := by
  obtain ⟨st1, ρ1, g1, g2, _⟩ := closeAll_ok _ st _ ρ h hc fun _ _ => trivial
  exact fin0_ok hΓ hM hX g2 g1
theorem finG_ok {r : AV} {h1 : List (Id × AO)} {fn : Func} (hΓ : Γ.chk P = true) (hF : ∀ o v, w0.fx o = some v → o.1 = 0) (hc : Conc N B M w0 ρ st.fs a w) (h : closeAll (holesOf st.h []) st (finG0 Γ fn.results.toList r h1)) :
    ∃ v ρ', (results fn a.tmps).run P w = .ok v w ∧ Conc 1 B M w0 ρ' (St.fs ⟨[(0, r)], h1.map (fun p => (p.1, some p.2)), [1, 0]⟩) ⟨#[v], []⟩ w := by
  obtain ⟨st1, ρ1, h, hc, _⟩ := closeAll_ok _ st _ ρ h hc fun _ _ => trivial
  unfold finG0 at h
  split at h
  · rename_i x hx
    obtain ⟨vs, g1, g2, g3⟩ := resVs_ok hΓ hc hx
    match vs, g2 with
    | [v], g2 =>
      obtain ⟨ρ2, h2⟩ := h.ok (by simp) hF (hc.alone (x := .r x) g2.1 fun o ho => g3 o (by simpa using (show o ∈ x.ids from ho)))
      refine ⟨_, ρ2, results_run g1, ?_⟩
      simpa using h2
    | [], g2 => exact g2.elim
    | _ :: _ :: _, g2 => exact g2.2.elim
  · rename_i xs hne hx
    obtain ⟨vs, g1, g2, g3⟩ := resVs_ok hΓ hc hx
    have hl : ¬ vs.length = 1 := by
      intro hl
      obtain ⟨v, rfl⟩ := List.length_eq_one_iff.1 hl
      match xs, g2, hne with
      | [x], _, hne => exact hne x rfl
      | [], g2, _ => exact g2.elim
      | _ :: _ :: _, g2, _ => exact g2.2.elim
    obtain ⟨ρ2, h2⟩ := h.ok (by simp) hF (hc.alone (x := .tup xs) (v := .tuple vs.toArray) ⟨_, rfl, by simpa using g2⟩ g3)
    refine ⟨_, ρ2, results_run g1, ?_⟩
    rw [dif_neg hl]
    exact h2
  · exact h.elim
theorem look_enum : ∀ (ts : List TV) (i t : Nat), look (enumF i ts) t = if t < i then .unk else (match ts[t - i]? with | some x => x.av | none => .unk)
  | [], i, t => by simp [enumF, look]
  | x :: ts, i, t => by
    rw [enumF, look]
    cases hb : Nat.beq t i with
    | true => have := Nat.eq_of_beq_eq_true hb; subst this; simp
    | false =>
      have hne : t ≠ i := fun e => by subst e; simp at hb
      rw [cond_false, look_enum ts (i + 1) t]
      by_cases h1 : t < i
      · rw [if_pos h1, if_pos (by omega)]
      · rw [if_neg h1, if_neg (by omega)]
        obtain ⟨k, hk⟩ : ∃ k, t - i = k + 1 := ⟨t - i - 1, by omega⟩
        rw [hk, show t - (i + 1) = k by omega]
        simp
theorem TV.av_ids (t : TV) : t.av.ids = [] := by
  cases t with
  | c x => rfl
  | agg xs =>
    show (xs.map AC.t).flatMap AC.ids = []
    induction xs with
    | nil => rfl
    | cons x xs ih => simp [AC.ids]
theorem RTs.toT {ok : Nat → Prop} : ∀ {vs : List Value} {ts : List Tr}, RTs w ok vs ts → RCs B ρ w ok vs (ts.map .t)
  | [], [], _ => trivial
  | _ :: _, _ :: _, h => ⟨h.1, RTs.toT h.2⟩
  | [], _ :: _, h => h.elim
  | _ :: _, [], h => h.elim
theorem RTV.toRV {ok : Nat → Prop} {v : Value} {t : TV} (h : RTV w ok v t) : RV B ρ w ok v t.av := by
  cases t with
  | c x => exact h
  | agg xs => obtain ⟨us, e, h⟩ := h; exact ⟨us, e, h.toT⟩
theorem RTVs.len {ok : Nat → Prop} : ∀ {vs : List Value} {ts : List TV}, RTVs w ok vs ts → vs.length = ts.length
  | [], [], _ => rfl
  | _ :: vs, _ :: ts, h => by simp [RTVs.len (vs := vs) (ts := ts) h.2]
  | [], _ :: _, h => h.elim
  | _ :: _, [], h => h.elim
theorem RTVs.get {ok : Nat → Prop} : ∀ {vs : List Value} {ts : List TV}, RTVs w ok vs ts → ∀ (i : Nat) v t, vs[i]? = some v → ts[i]? = some t → RTV w ok v t
  | [], [], _, i, v, t, h, _ => by simp at h
  | _ :: _, _ :: _, h, 0, v, t, h1, h2 => by simp at h1 h2; subst h1; subst h2; exact h.1
  | _ :: _, _ :: _, h, i + 1, v, t, h1, h2 => RTVs.get h.2 i v t (by simpa using h1) (by simpa using h2)
  | [], _ :: _, h, _, _, _, _, _ => h.elim
  | _ :: _, [], h, _, _, _, _, _ => h.elim
theorem enter_conc {ts : List TV} {vs : Array Value} {w : World} (h : RTVs w (fun b => b < w.heap.size) vs.toList ts) (hN : ts.length ≤ N) :
    Conc N w.heap.size (fun _ => False) ⟨w, fun _ => True, fun _ => none⟩ ⟨fun _ => undef, fun _ _ => False, fun _ => True⟩ (st0 ts).fs { tmps := vs ++ Array.replicate (N - vs.size) undef, defers := [] } w := by
  have hl : vs.size = ts.length := by simpa using h.len
  refine ⟨by simp; omega, rfl, fun t => ?_, fun o x ho => (by cases ho), fun o o' x x' b ho => (by cases ho), fun o x b ho => (by cases ho), ⟨rfl, rfl, rfl, Nat.le_refl _, fun _ _ _ => rfl⟩, Nat.le_refl _, fun _ _ => trivial, rfl, fun _ _ h => (by cases h), fun t o ho => ?_, fun o x ho => by cases ho⟩
  · show RV _ _ _ _ _ (look (enumF 0 ts) t)
    rw [look_enum, if_neg (by omega), Nat.sub_zero]
    cases ht : ts[t]? with
    | none => trivial
    | some x =>
      have hlt : t < vs.size := by
        rcases Nat.lt_or_ge t ts.length with h' | h'
        · omega
        · rw [List.getElem?_eq_none h'] at ht; cases ht
      have e : (vs ++ Array.replicate (N - vs.size) undef).getD t undef = vs[t] := by
        rw [Array.getD_eq_getD_getElem?, Array.getElem?_append_left hlt, Array.getElem?_eq_getElem hlt]
        rfl
      simp only
      rw [e]
      have := h.get t vs[t] x (by simp [hlt]) ht
      refine RV.keep (RTV.toRV (B := w.heap.size) (ρ := ⟨fun _ => undef, fun _ _ => False, fun _ => True⟩) this) (fun b hb => ⟨rfl, ⟨hb, trivial⟩, fun o x ho => by cases ho⟩) (fun o ho => rfl)
  · have ho : o ∈ (look (enumF 0 ts) t).ids := ho
    rw [look_enum, if_neg (by omega), Nat.sub_zero] at ho
    cases ht : ts[t]? with
    | none => rw [ht] at ho; simp [AV.ids] at ho
    | some x => rw [ht] at ho; simp only [TV.av_ids] at ho; cases ho
theorem enters_of {f : FuncId} {fn : Func} {c : Code} (hf : P.funcs[f]? = some fn) (hb : fn.body = some c) (hn : (fn.name == "runtime.NumGoroutine") = false) : Enters P f := by
  intro args w
  simp only [beq_eq_false_iff_ne] at hn
  simp [callFunc, hf, hb, hn]
theorem spec_of_W {f : FuncId} {fn : Func} {c : Code} {ts : List TV} {r : Res} (hΓ : Γ.chk P = true) (hmix : P.follows .mixedOrders = true) (hf : P.funcs[f]? = some fn) (hb : fn.body = some c) (hn : (fn.name == "runtime.NumGoroutine") = false)
    (hN : Nat.ble ts.length fn.ntmps = true) (h : W true P Γ fn.ntmps c (doneK Γ fn.results.toList r) (st0 ts)) : Spec P f ts r := by
  refine ⟨enters_of hf hb hn, fun w vs hvs => calls_of_wp hf hb ?_⟩
  have hc := enter_conc (N := fn.ntmps) hvs (Nat.le_of_ble_eq_true hN)
  refine W_ok hΓ hmix (fun _ => ⟨fun _ h => h, fun _ => rfl⟩) (fun _ _ h => by cases h) c _ _ _ _ _ _ h hc fun e st' ρ' a' w' hK hc' => ?_
  have key : fin Γ fn.results.toList st' r → a'.defers = [] ∧ ∃ v, (results fn a'.tmps).run P w' = .ok v w' ∧ ∃ v', Ending.returned v = .returned v' ∧ Below w.heap.size w w' ∧ ResOK w.heap.size w' v' r := fun hfin => by
    obtain ⟨v, h1, h2⟩ := fin_ok (P := P) hΓ (fun _ h => h) (fun _ => rfl) hc' hfin
    exact ⟨hc'.defers, v, h1, v, rfl, ⟨hc'.keep.os, hc'.keep.tape, hc'.keep.output, hc'.keep.size, fun k hk => hc'.keep.block k hk (fun h => h)⟩, h2⟩
  cases e with
  | normal => exact key hK
  | ret => exact key hK
  | exit id => exact hK.elim
def enumV : Nat → List AV → List (Nat × AV)
  | _, [] => []
  | i, t :: ts => (i, t) :: enumV (i + 1) ts
def stG (xs : List AV) (h0 : List (Id × AO)) : St := ⟨enumV 0 xs, h0.map fun p => (p.1, some p.2), [0]⟩
theorem look_enumV : ∀ (ts : List AV) (i t : Nat), look (enumV i ts) t = if t < i then .unk else (match ts[t - i]? with | some x => x | none => .unk)
  | [], i, t => by simp [enumV, look]
  | x :: ts, i, t => by
    rw [enumV, look]
    cases hb : Nat.beq t i with
    | true => have := Nat.eq_of_beq_eq_true hb; subst this; simp
    | false =>
      have hne : t ≠ i := fun e => by subst e; simp at hb
      rw [cond_false, look_enumV ts (i + 1) t]
      by_cases h1 : t < i
      · rw [if_pos h1, if_pos (by omega)]
      · rw [if_neg h1, if_neg (by omega)]
        obtain ⟨k, hk⟩ : ∃ k, t - i = k + 1 := ⟨t - i - 1, by omega⟩
        rw [hk, show t - (i + 1) = k by omega]
        simp
theorem RVs.len {ok : Nat → Prop} : ∀ {vs : List Value} {ts : List AV}, RVs B ρ w ok vs ts → vs.length = ts.length
  | [], [], _ => rfl
  | _ :: vs, _ :: ts, h => by simp [RVs.len (vs := vs) (ts := ts) h.2]
  | [], _ :: _, h => h.elim
  | _ :: _, [], h => h.elim
theorem RVs.get {ok : Nat → Prop} : ∀ {vs : List Value} {ts : List AV}, RVs B ρ w ok vs ts → ∀ (i : Nat) v t, vs[i]? = some v → ts[i]? = some t → RV B ρ w ok v t
  | [], [], _, i, v, t, h, _ => by simp at h
  | _ :: _, _ :: _, h, 0, v, t, h1, h2 => by simp at h1 h2; subst h1; subst h2; exact h.1
  | _ :: _, _ :: _, h, i + 1, v, t, h1, h2 => RVs.get h.2 i v t (by simpa using h1) (by simpa using h2)
  | [], _ :: _, h, _, _, _, _, _ => h.elim
  | _ :: _, [], h, _, _, _, _, _ => h.elim
theorem hget_lk (h0 : List (Id × AO)) (o : Id) : hget (h0.map fun p => (p.1, some p.2)) o = lkH h0 o := by
  induction h0 with
  | nil => rfl
  | cons p l ih => simp only [List.map_cons, hget, lkH, ih]
def namesG (xs : List AV) (h0 : List (Id × AO)) (r : AV) (h1 : List (Id × AO)) : Bool :=
  xs.all (fun x => x.ids.all fun o => Nat.beq o.1 0) && h0.all (fun p => Nat.beq p.1.1 0 && p.2.ids.all fun o => Nat.beq o.1 0)
theorem enter_concG {xs : List AV} {h0 : List (Id × AO)} {vs : Array Value} {w : World} {ρ : Rho} (hn : namesG xs h0 .unk [] = true) (h : RVs w.heap.size ρ w (okB ρ (lkH h0) w) vs.toList xs) (hl : Lies w.heap.size ρ w h0) (hal : ∀ b, (w.heap.size ≤ b ∨ Ms ρ h0 b) → ρ.al b) (hN : xs.length ≤ N) :
    Conc N w.heap.size (Ms ρ h0) ⟨w, ρ.al, fun o => if (lkH h0 o).isSome = true then some (ρ o) else none⟩ ρ (stG xs h0).fs { tmps := vs ++ Array.replicate (N - vs.size) undef, defers := [] } w := by
  have hlen : vs.size = xs.length := by simpa using h.len
  simp only [namesG, Bool.and_eq_true, List.all_eq_true, Nat.beq_eq_true_eq] at hn
  have hH : ∀ o, (stG xs h0).fs.H o = lkH h0 o := fun o => hget_lk h0 o
  have hH' : (stG xs h0).fs.H = lkH h0 := funext hH
  have hU : ∀ n, (stG xs h0).fs.U n ↔ n = 0 := fun n => by
    show used [0] n = true ↔ n = 0
    simp only [used]
    cases hb : Nat.beq n 0 with
    | true => simpa using hb
    | false => simp only [cond_false, Bool.false_eq_true, false_iff]; intro e; subst e; simp at hb
  have hmem : ∀ o x, lkH h0 o = some x → o.1 = 0 ∧ ∀ o' ∈ x.ids, o'.1 = 0 := fun o x hx => by
    have := hn.2 _ (lkH_mem hx)
    exact ⟨by simpa using this.1, fun o' ho' => by simpa using this.2 o' ho'⟩
  refine ⟨by simp; omega, rfl, fun t => ?_, fun o x ho => ?_, fun o o' x x' b ho ho' => ?_, fun o x b ho he => ?_, ⟨rfl, rfl, rfl, Nat.le_refl _, fun _ _ _ => rfl⟩, Nat.le_refl _, fun b hb => hal b hb, rfl, fun o v hv => ?_, fun t o ho => ?_, fun o x ho => ?_⟩
  · show RV _ _ _ _ _ (look (enumV 0 xs) t)
    rw [look_enumV, if_neg (by omega), Nat.sub_zero, hH']
    cases ht : xs[t]? with
    | none => trivial
    | some x =>
      have hlt : t < vs.size := by
        rcases Nat.lt_or_ge t xs.length with h' | h'
        · omega
        · rw [List.getElem?_eq_none h'] at ht; cases ht
      have e : (vs ++ Array.replicate (N - vs.size) undef).getD t undef = vs[t] := by
        rw [Array.getD_eq_getD_getElem?, Array.getElem?_append_left hlt, Array.getElem?_eq_getElem hlt]
        rfl
      simp only
      rw [e]
      exact h.get t vs[t] x (by simp [hlt]) ht
  · rw [hH] at ho
    rw [hH']
    exact hl.obj o x ho
  · rw [hH] at ho ho'
    exact hl.sep o o' x x' b ho ho'
  · rw [hH] at ho
    exact ⟨hl.lt o x b ho he, .inr ⟨o, x, ho, he⟩⟩
  · have hv : (if (lkH h0 o).isSome = true then some (ρ o) else none) = some v := hv
    split at hv
    · rename_i hs
      injection hv with hv
      obtain ⟨x, hx⟩ := Option.isSome_iff_exists.1 hs
      exact ⟨hv, (hU _).2 (hmem o x hx).1⟩
    · cases hv
  · have ho : o ∈ (look (enumV 0 xs) t).ids := ho
    rw [look_enumV, if_neg (by omega), Nat.sub_zero] at ho
    cases ht : xs[t]? with
    | none => rw [ht] at ho; simp [AV.ids] at ho
    | some x => rw [ht] at ho; exact (hU _).2 (by simpa using hn.1 x (List.mem_of_getElem? ht) o ho)
  · rw [hH] at ho
    obtain ⟨g1, g2⟩ := hmem o x ho
    exact ⟨(hU _).2 g1, fun o' ho' => (hU _).2 (g2 o' ho')⟩
theorem specG_of_W {f : FuncId} {fn : Func} {c : Code} {xs : List AV} {h0 : List (Id × AO)} {r : AV} {h1 : List (Id × AO)} (hΓ : Γ.chk P = true) (hmix : P.follows .mixedOrders = true) (hf : P.funcs[f]? = some fn) (hb : fn.body = some c) (hn : (fn.name == "runtime.NumGoroutine") = false)
    (hN : Nat.ble xs.length fn.ntmps = true) (hnames : namesG xs h0 .unk [] = true) (h : W false P Γ fn.ntmps c (doneG Γ fn.results.toList r h1) (stG xs h0)) : SpecG P f xs h0 r h1 := by
  refine ⟨enters_of hf hb hn, fun w vs ρ hvs hl hal => calls_of_wp hf hb ?_⟩
  have hc := enter_concG (N := fn.ntmps) hnames hvs hl hal (Nat.le_of_ble_eq_true hN)
  have hF : ∀ o v, (if (lkH h0 o).isSome = true then some (ρ o) else none) = some v → o.1 = 0 := fun o v hv => by
    split at hv
    · rename_i hs
      obtain ⟨x, hx⟩ := Option.isSome_iff_exists.1 hs
      simp only [namesG, Bool.and_eq_true, List.all_eq_true, Nat.beq_eq_true_eq] at hnames
      simpa using (hnames.2 _ (lkH_mem hx)).1
    · cases hv
  refine W_ok hΓ hmix (by simp) hF c _ _ _ _ _ _ h hc fun e st' ρ' a' w' hK hc' => ?_
  have key : closeAll (holesOf st'.h []) st' (finG0 Γ fn.results.toList r h1) → a'.defers = [] ∧ ∃ v, (results fn a'.tmps).run P w' = .ok v w' ∧ ∃ v' ρ2, Ending.returned v = .returned v' ∧ Keep w.heap.size (Ms ρ h0) w w' ∧ (∀ o, (lkH h0 o).isSome = true → ρ2 o = ρ o) ∧ ρ2.al = ρ.al ∧
      RV w.heap.size ρ2 w' (okB ρ2 (lkH h1) w') v' r ∧ Lies w.heap.size ρ2 w' h1 ∧ ∀ o x b, lkH h1 o = some x → Own ρ2 o b → w.heap.size ≤ b ∨ Ms ρ h0 b := fun hfin => by
    obtain ⟨v, ρ2, k1, k2⟩ := finG_ok (P := P) hΓ hF hc' hfin
    have hH : ∀ o, (St.fs ⟨[(0, r)], h1.map (fun p => (p.1, some p.2)), [1, 0]⟩).H o = lkH h1 o := fun o => hget_lk h1 o
    have hH' : (St.fs ⟨[(0, r)], h1.map (fun p => (p.1, some p.2)), [1, 0]⟩).H = lkH h1 := funext hH
    refine ⟨hc'.defers, v, k1, v, ρ2, rfl, k2.keep, fun o ho => ?_, k2.cst, ?_, ⟨fun o x ho => ?_, fun o o' x x' b ho ho' => ?_, fun o x b ho he => ?_⟩, fun o x b ho he => ?_⟩
    · have := k2.fix o (ρ o) (by show (if (lkH h0 o).isSome = true then some (ρ o) else none) = _; rw [if_pos ho])
      exact this.1
    · have := k2.slot 0
      rw [hH'] at this
      exact this
    · have := k2.obj o x (by rw [hH]; exact ho)
      rw [hH'] at this
      exact this
    · exact k2.sep o o' x x' b (by rw [hH]; exact ho) (by rw [hH]; exact ho')
    · exact (k2.rng o x b (by rw [hH]; exact ho) he).1
    · exact (k2.rng o x b (by rw [hH]; exact ho) he).2
  cases e with
  | normal => exact key hK
  | ret => exact key hK
  | exit id => exact hK.elim
end
end Go.Sim
