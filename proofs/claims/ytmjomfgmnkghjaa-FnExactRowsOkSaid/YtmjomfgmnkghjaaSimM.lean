/- A function: from the proposition that its code unfolds to, to its contract. -/
import Derived.Test.YtmjomfgmnkghjaaSimL
namespace Go.Sim
open Go.RowKit

def TV.av : TV → AV
  | .c x => .r (.c (.t x))
  | .agg xs => .r (.agg (xs.map .t))
def enumF : Nat → List TV → List (Nat × AV)
  | _, [] => []
  | i, t :: ts => (i, t.av) :: enumF (i + 1) ts
def st0 (ts : List TV) : St := ⟨enumF 0 ts, [], []⟩

def freshC : AC → Prop
  | .t x => (match x with
     | .lst _ _ => False
     | _ => True)
  | _ => True
def freshCs : List AC → Prop
  | [] => True
  | c :: cs => freshC c ∧ freshCs cs
def freshR : AR → Prop
  | .c x => freshC x
  | .agg cs => freshCs cs
def freshRs : List AR → Prop
  | [] => True
  | c :: cs => freshR c ∧ freshRs cs
def idsApart : List (Id × AO) → Bool
  | [] => true
  | (o, _) :: l => !(l.any fun p => idEq o p.1) && idsApart l
/-- A result's variable: a slot, or a box of the call's own. -/
def resV (Γ : Env) (st : St) : ResultVar → Option AR
  | .tmp t => (match look st.fr t with
     | .r x => some x
     | _ => none)
  | .cell a T => (match look st.fr a, Γ.get T with
     | .r (.c (.ptr o 0)), some ti => (match hget st.h o with
        | some (.box cells) => (match ti.agg, Nat.beq cells.length ti.size, cells with
           | true, true, cs => some (.agg cs)
           | false, true, [c] => some (.c c)
           | _, _, _ => none)
        | _ => none)
     | _, _ => none)
def resVs (Γ : Env) (st : St) : List ResultVar → Option (List AR)
  | [] => some []
  | rv :: rvs => (match resV Γ st rv, resVs Γ st rvs with
     | some x, some xs => some (x :: xs)
     | _, _ => none)
def finV (v : AV) (st : St) (r : Res) : Prop := idsApart (r.os 0) = true ∧ Leq true ⟨[(0, v)], st.h, st.u⟩ ⟨[(0, r.av 0)], r.us 0, [0]⟩
/-- What is handed back is this result. -/
def fin (Γ : Env) (rvs : List ResultVar) (st : St) (r : Res) : Prop :=
  match resVs Γ st rvs with
  | some [x] => freshR x ∧ finV (.r x) st r
  | some xs => freshRs xs ∧ finV (.tup xs) st r
  | none => False
def doneK (Γ : Env) (rvs : List ResultVar) (r : Res) : Out → St → Prop
  | .exit _, _ => False
  | _, st => fin Γ rvs st r

/-- What is left to be shown on the way. -/
structure Obl (p : Prop) : Prop where
  out : p
theorem call_intro {P : Program} {f : FuncId} {H : Id → Option AO} {xs : List AV} {ts : List TV} {r : Res} {K : List TV → Res → Prop} (h : Sim.Spec P f ts r) (h1 : argTrees H xs ts) (h2 : K ts r) : ∃ ts r, argTrees H xs ts ∧ Sim.Spec P f ts r ∧ K ts r :=
  ⟨ts, r, h1, h, h2⟩

section
variable {P : Program} {Γ : Env} {N B : Nat} {M : Nat → Prop} {w0 w : World} {ρ : Id → Value} {st st' : St} {a : Act}

theorem freshC_ok {ok : Nat → Prop} {v : Value} {x : AC} (h : freshC x) (hv : RC B ρ w ok v x) : RC B ρ w (okF B ok true) v x := by
  cases x with
  | t x =>
    cases x with
    | lst => exact h.elim
    | int k n => exact RT.flat hv (by simp)
    | bool b => exact RT.flat hv (by simp)
    | str b => exact RT.flat hv (by simp)
  | f x => exact RT.up (show RT w (okF B ok true) v x from hv) fun b hb => ⟨hb, hb.2⟩
  | nils sz => exact hv
  | nilp => exact hv
  | own o => exact hv
  | sub o k => exact hv
  | ptr o k => exact hv
theorem freshCs_ok {ok : Nat → Prop} : ∀ {vs : List Value} {xs : List AC}, freshCs xs → RCs B ρ w ok vs xs → RCs B ρ w (okF B ok true) vs xs
  | [], [], _, _ => trivial
  | _ :: _, _ :: _, h, hv => ⟨freshC_ok h.1 hv.1, freshCs_ok h.2 hv.2⟩
  | [], _ :: _, _, h => h.elim
  | _ :: _, [], _, h => h.elim
theorem freshR_ok {ok : Nat → Prop} {v : Value} {x : AR} (h : freshR x) (hv : RR B ρ w ok v x) : RR B ρ w (okF B ok true) v x := by
  cases x with
  | c x => exact freshC_ok h hv
  | agg cs => obtain ⟨us, e, hu⟩ := hv; exact ⟨us, e, freshCs_ok h hu⟩
theorem freshRs_ok {ok : Nat → Prop} : ∀ {vs : List Value} {xs : List AR}, freshRs xs → RRs B ρ w ok vs xs → RRs B ρ w (okF B ok true) vs xs
  | [], [], _, _ => trivial
  | _ :: _, _ :: _, h, hv => ⟨freshR_ok h.1 hv.1, freshRs_ok h.2 hv.2⟩
  | [], _ :: _, _, h => h.elim
  | _ :: _, [], _, h => h.elim

theorem idsApart_get : ∀ {l : List (Id × AO)} {o : Id} {x : AO}, idsApart l = true → (o, x) ∈ l → hget (l.map fun p => (p.1, some p.2)) o = some x
  | [], _, _, _, h => by cases h
  | (i, y) :: l, o, x, h, hm => by
    simp only [idsApart, Bool.and_eq_true, Bool.not_eq_true', List.any_eq_false] at h
    rw [List.map_cons, hget]
    rcases List.mem_cons.1 hm with he | hm2
    · injection he with e1 e2; subst e1; subst e2; rw [idEq_iff.2 rfl]; rfl
    · cases hb : idEq o i with
      | true => have := idEq_iff.1 hb; subst this; exact absurd (idEq_iff.2 rfl) (h.1 (o, x) hm2)
      | false => exact idsApart_get h.2 hm2

/-- One slot that holds the result. -/
theorem Conc.alone (hc : Conc N B M w0 ρ st.fs a w) {v : Value} {x : AV} (hv : RV B ρ w (okB ρ st.fs.H w) v x) (hi : ∀ o ∈ x.ids, st.fs.U o.1) : Conc 1 B M w0 ρ (St.fs ⟨[(0, x)], st.h, st.u⟩) ⟨#[v], []⟩ w := by
  refine ⟨rfl, rfl, fun t => ?_, hc.obj, hc.sep, hc.rng, hc.keep, hc.base, fun t o ho => ?_, hc.usedH⟩
  · show RV _ _ _ _ _ (bif Nat.beq t 0 then x else .unk)
    cases t with
    | zero => exact hv
    | succ t => trivial
  · have ho : o ∈ (bif Nat.beq t 0 then x else .unk).ids := ho
    cases t with
    | zero => exact hi o ho
    | succ t => have : o ∈ AV.ids .unk := ho; simp [AV.ids] at this

theorem finV_ok {r : Res} {v : Value} {x : AV} (hM : ∀ b, ¬ M b) (hc : Conc N B M w0 ρ st.fs a w) (h : finV x st r) (hv : RV B ρ w (okB ρ st.fs.H w) v x) (hv' : RV B ρ w (okF B (okB ρ st.fs.H w) true) v x) (hi : ∀ o ∈ x.ids, st.fs.U o.1) : ResOK B w v r := by
  obtain ⟨h1, h2⟩ := h
  obtain ⟨ρ', hc', hk, hS⟩ := h2.ok' (M := M) (fun _ => hM) (hc.alone hv hi)
  have hget : ∀ o y, (o, y) ∈ r.os 0 → (St.fs ⟨[(0, r.av 0)], r.us 0, [0]⟩).H o = some y := fun o y hm => idsApart_get h1 hm
  refine ⟨ρ', okF B (okB ρ' (St.fs ⟨[(0, r.av 0)], r.us 0, [0]⟩).H w) true, fun b hb => ⟨hb.1.1, hb.2 rfl⟩, ?_, fun o y hm => ?_, fun o o' y y' hm hm' hne b hb => hc'.sep o o' y y' b (hget o y hm) (hget o' y' hm') hne hb⟩
  · exact hS 0 v _ _ (fun b hb => ⟨hk b hb.1, hb.2⟩) hv'
  · have ho := hget o y hm
    obtain ⟨sz, rows, rfl⟩ := res_arr hm
    refine ⟨?_, fun b hb => ?_⟩
    · obtain ⟨hu, hro⟩ := hc'.obj o _ ho
      refine ⟨hu, ?_⟩
      rcases hro with h | ⟨b, cap, cur, e, fz, k1, k2, k3, k4, k5, k6, k7, k8⟩
      · exact .inl h
      · exact .inr ⟨b, cap, cur, e, fz, k1, k2, k3, k4, k5, k6, k7.keep fun b hb => ⟨rfl, hb, hb.2⟩, k8⟩
    · have := hc'.rng o _ b ho hb
      refine ⟨this.2.resolve_right (hM b), this.1, fun hok => hok.1.2 o _ ho hb⟩

/-- The model's own reading of a result's variable. -/
abbrev resRun (tmps : Array Value) (rv : ResultVar) : Sem Value := match rv with
  | .tmp t => pure (tmps.getD t undef)
  | .cell a t => do loadVar t (← asAddr (tmps.getD a undef))

theorem resV_ok (hΓ : Γ.chk P = true) (hc : Conc N B M w0 ρ st.fs a w) {rv : ResultVar} {x : AR} (h : resV Γ st rv = some x) :
    ∃ v, (resRun a.tmps rv).run P w = .ok v w ∧ RR B ρ w (okB ρ st.fs.H w) v x ∧ ∀ o ∈ x.ids, st.fs.U o.1 := by
  cases rv with
  | tmp t =>
    simp only [resV] at h
    split at h
    · rename_i y hy
      injection h with h; subst h
      have hs := hc.slot t
      rw [show st.fs.L t = .r y from hy] at hs
      exact ⟨_, rfl, hs, fun o ho => hc.usedL t o (by rw [show st.fs.L t = .r y from hy]; exact ho)⟩
    · cases h
  | cell t T =>
    simp only [resV] at h
    split at h
    · rename_i o ti hl hT
      split at h
      · rename_i cells hh
        obtain ⟨i, d, fit⟩ := Env.fit hΓ hT
        obtain ⟨b, us, t', fz, g1, g2, g3, g4, g5⟩ := hc.box (q := o) hh
        have hs := hc.slot t
        rw [show st.fs.L t = .r (.c (.ptr o 0)) from hl] at hs
        obtain ⟨b', e1, e2⟩ := hs
        rw [g1] at e1
        injection e1 with e1; injection e1 with e1; injection e1 with e1
        subst e1
        have hids : ∀ o' ∈ cells.flatMap AC.ids, st.fs.U o'.1 := (hc.usedH o _ hh).2
        have hadr : (asAddr (a.tmps.getD t undef)).run P w = .ok (⟨b, 0, none⟩ : Addr) w := by rw [e2]; rfl
        split at h
        · rename_i cs ha hb
          injection h with h; subst h
          have hlen : us.toList.length = ti.size := by rw [g4.length]; simpa using hb
          have h1 := run_loadCells_list (P := P) w ⟨b, 0, none⟩ us.toList g5
          rw [hlen, ← fit.size] at h1
          refine ⟨.agg us.toList.toArray, ?_, ⟨_, rfl, by simpa using g4⟩, hids⟩
          simp only [resRun, Sem.run_bind, hadr, Result.andThen_ok]
          simp [loadVar, run_isAgg fit.und, fit.agg, ha, run_sizeOf fit.info, h1]
        · rename_i c ha hb
          injection h with h; subst h
          obtain ⟨u, hu, hru⟩ := g4.get 0 c rfl
          have hcell := g5 0 u hu
          rw [add_zero'] at hcell
          refine ⟨u, ?_, hru, fun o ho => hids o (by simpa using (show o ∈ c.ids from ho))⟩
          simp only [resRun, Sem.run_bind, hadr, Result.andThen_ok]
          simp [loadVar, run_isAgg fit.und, fit.agg, ha, run_load, hcell]
        · cases h
      · cases h
    · cases h

theorem resVs_ok (hΓ : Γ.chk P = true) (hc : Conc N B M w0 ρ st.fs a w) : ∀ {rvs : List ResultVar} {xs : List AR}, resVs Γ st rvs = some xs →
    ∃ vs, (rvs.mapM (resRun a.tmps)).run P w = .ok vs w ∧ RRs B ρ w (okB ρ st.fs.H w) vs xs ∧ ∀ o ∈ xs.flatMap AR.ids, st.fs.U o.1
  | [], xs, h => by
    simp only [resVs, Option.some.injEq] at h
    subst h
    exact ⟨[], by simp, trivial, by simp⟩
  | rv :: rvs, xs, h => by
    simp only [resVs] at h
    split at h
    · rename_i x xs' h1 h2
      injection h with h; subst h
      obtain ⟨v, g1, g2, g3⟩ := resV_ok hΓ hc h1
      obtain ⟨vs, g4, g5, g6⟩ := resVs_ok hΓ hc h2
      refine ⟨v :: vs, ?_, ⟨g2, g5⟩, fun o ho => ?_⟩
      · rw [List.mapM_cons, Sem.run_bind, g1, Result.andThen_ok, Sem.run_bind, g4, Result.andThen_ok, Sem.run_pure]
      · simp only [List.flatMap_cons, List.mem_append] at ho
        exact ho.elim (g3 o) (g6 o)
    · cases h

theorem fin_ok {r : Res} {fn : Func} (hΓ : Γ.chk P = true) (hM : ∀ b, ¬ M b) (hc : Conc N B M w0 ρ st.fs a w) (h : fin Γ fn.results.toList st r) :
    ∃ v, (results fn a.tmps).run P w = .ok v w ∧ ResOK B w v r := by
  have run : ∀ vs, (fn.results.toList.mapM (resRun a.tmps)).run P w = .ok vs w → (results fn a.tmps).run P w = .ok (if h : vs.length = 1 then vs[0] else .tuple vs.toArray) w := by
    intro vs hvs
    unfold results
    rw [show fn.results = fn.results.toList.toArray by simp]
    simp only [List.mapM_toArray, bind_map_left, Sem.run_bind]
    refine (congrArg (fun x => Result.andThen x _) hvs).trans ?_
    simp only [Result.andThen_ok, Sem.run_pure, List.size_toArray, List.getElem_toArray]
  unfold fin at h
  split at h
  · rename_i x hx
    obtain ⟨vs, g1, g2, g3⟩ := resVs_ok hΓ hc hx
    match vs, g2 with
    | [v], g2 =>
      refine ⟨_, run _ g1, ?_⟩
      simp only [List.length_cons, List.length_nil, Nat.zero_add, dite_true, List.getElem_cons_zero]
      exact finV_ok hM hc h.2 g2.1 (freshR_ok h.1 g2.1) fun o ho => g3 o (by simpa using (show o ∈ x.ids from ho))
    | [], g2 => exact g2.elim
    | _ :: _ :: _, g2 => exact g2.2.elim
  · rename_i xs hne hx
    obtain ⟨vs, g1, g2, g3⟩ := resVs_ok hΓ hc hx
    refine ⟨_, run _ g1, ?_⟩
    have hl : ¬ vs.length = 1 := by
      intro hl
      obtain ⟨v, rfl⟩ := List.length_eq_one_iff.1 hl
      match xs, g2, hne with
      | [x], _, hne => exact hne x rfl
      | [], g2, _ => exact g2.elim
      | _ :: _ :: _, g2, _ => exact g2.2.elim
    rw [dif_neg hl]
    exact finV_ok hM hc h.2 ⟨_, rfl, by simpa using g2⟩ ⟨_, rfl, by simpa using freshRs_ok h.1 g2⟩ g3
  · exact h.elim

theorem look_enum : ∀ (ts : List TV) (i t : Nat), look (enumF i ts) t = if t < i then .unk else (match ts[t - i]? with | some x => x.av | none => .unk)
  | [], i, t => by simp [enumF, look]
  | x :: ts, i, t => by
    rw [enumF, look]
    cases hb : Nat.beq t i with
    | true => have := Nat.eq_of_beq_eq_true hb; subst this; simp
    | false =>
      have hne : t ≠ i := fun e => by subst e; simp at hb
      rw [cond_false, look_enum ts (i + 1) t]
      by_cases h1 : t < i
      · rw [if_pos h1, if_pos (by omega)]
      · rw [if_neg h1, if_neg (by omega)]
        obtain ⟨k, hk⟩ : ∃ k, t - i = k + 1 := ⟨t - i - 1, by omega⟩
        rw [hk, show t - (i + 1) = k by omega]
        simp
theorem TV.av_ids (t : TV) : t.av.ids = [] := by
  cases t with
  | c x => rfl
  | agg xs =>
    show (xs.map AC.t).flatMap AC.ids = []
    induction xs with
    | nil => rfl
    | cons x xs ih => simp [AC.ids]
theorem RTs.toT {ok : Nat → Prop} : ∀ {vs : List Value} {ts : List Tr}, RTs w ok vs ts → RCs B ρ w ok vs (ts.map .t)
  | [], [], _ => trivial
  | _ :: _, _ :: _, h => ⟨h.1, RTs.toT h.2⟩
  | [], _ :: _, h => h.elim
  | _ :: _, [], h => h.elim
theorem RTV.toRV {ok : Nat → Prop} {v : Value} {t : TV} (h : RTV w ok v t) : RV B ρ w ok v t.av := by
  cases t with
  | c x => exact h
  | agg xs => obtain ⟨us, e, h⟩ := h; exact ⟨us, e, h.toT⟩
theorem RTVs.len {ok : Nat → Prop} : ∀ {vs : List Value} {ts : List TV}, RTVs w ok vs ts → vs.length = ts.length
  | [], [], _ => rfl
  | _ :: vs, _ :: ts, h => by simp [RTVs.len (vs := vs) (ts := ts) h.2]
  | [], _ :: _, h => h.elim
  | _ :: _, [], h => h.elim
theorem RTVs.get {ok : Nat → Prop} : ∀ {vs : List Value} {ts : List TV}, RTVs w ok vs ts → ∀ (i : Nat) v t, vs[i]? = some v → ts[i]? = some t → RTV w ok v t
  | [], [], _, i, v, t, h, _ => by simp at h
  | _ :: _, _ :: _, h, 0, v, t, h1, h2 => by simp at h1 h2; subst h1; subst h2; exact h.1
  | _ :: _, _ :: _, h, i + 1, v, t, h1, h2 => RTVs.get h.2 i v t (by simpa using h1) (by simpa using h2)
  | [], _ :: _, h, _, _, _, _, _ => h.elim
  | _ :: _, [], h, _, _, _, _, _ => h.elim

theorem enter_conc {ts : List TV} {vs : Array Value} {w : World} (h : RTVs w (fun b => b < w.heap.size) vs.toList ts) (hN : ts.length ≤ N) :
    Conc N w.heap.size (fun _ => False) w (fun _ => undef) (st0 ts).fs { tmps := vs ++ Array.replicate (N - vs.size) undef, defers := [] } w := by
  have hl : vs.size = ts.length := by simpa using h.len
  refine ⟨by simp; omega, rfl, fun t => ?_, fun o x ho => (by cases ho), fun o o' x x' b ho => (by cases ho), fun o x b ho => (by cases ho), ⟨rfl, rfl, rfl, Nat.le_refl _, fun _ _ _ => rfl⟩, Nat.le_refl _, fun t o ho => ?_, fun o x ho => by cases ho⟩
  · show RV _ _ _ _ _ (look (enumF 0 ts) t)
    rw [look_enum, if_neg (by omega), Nat.sub_zero]
    cases ht : ts[t]? with
    | none => trivial
    | some x =>
      have hlt : t < vs.size := by
        rcases Nat.lt_or_ge t ts.length with h' | h'
        · omega
        · rw [List.getElem?_eq_none h'] at ht; cases ht
      have e : (vs ++ Array.replicate (N - vs.size) undef).getD t undef = vs[t] := by
        rw [Array.getD_eq_getD_getElem?, Array.getElem?_append_left hlt, Array.getElem?_eq_getElem hlt]
        rfl
      simp only
      rw [e]
      have := h.get t vs[t] x (by simp [hlt]) ht
      refine RV.keep (RTV.toRV (B := w.heap.size) (ρ := fun _ => undef) this) (fun b hb => ⟨rfl, hb, fun o x ho => by cases ho⟩) (fun o ho => rfl)
  · have ho : o ∈ (look (enumF 0 ts) t).ids := ho
    rw [look_enum, if_neg (by omega), Nat.sub_zero] at ho
    cases ht : ts[t]? with
    | none => rw [ht] at ho; simp [AV.ids] at ho
    | some x => rw [ht] at ho; simp only [TV.av_ids] at ho; cases ho

theorem enters_of {f : FuncId} {fn : Func} {c : Code} (hf : P.funcs[f]? = some fn) (hb : fn.body = some c) (hn : (fn.name == "runtime.NumGoroutine") = false) : Enters P f := by
  intro args w
  simp only [beq_eq_false_iff_ne] at hn
  simp [callFunc, hf, hb, hn]

/-- A FUNCTION'S CONTRACT, from what its code unfolds to. -/
theorem spec_of_W {f : FuncId} {fn : Func} {c : Code} {ts : List TV} {r : Res} (hΓ : Γ.chk P = true) (hmix : P.follows .mixedOrders = true) (hf : P.funcs[f]? = some fn) (hb : fn.body = some c) (hn : (fn.name == "runtime.NumGoroutine") = false)
    (hN : Nat.ble ts.length fn.ntmps = true) (h : W true P Γ fn.ntmps c (doneK Γ fn.results.toList r) (st0 ts)) : Spec P f ts r := by
  refine ⟨enters_of hf hb hn, fun w vs hvs => calls_of_wp hf hb ?_⟩
  have hc := enter_conc (N := fn.ntmps) hvs (Nat.le_of_ble_eq_true hN)
  refine W_ok hΓ hmix (fun _ _ h => h) c _ _ _ _ _ _ h hc fun e st' ρ' a' w' hK hc' => ?_
  have key : fin Γ fn.results.toList st' r → a'.defers = [] ∧ ∃ v, (results fn a'.tmps).run P w' = .ok v w' ∧ ∃ v', Ending.returned v = .returned v' ∧ Below w.heap.size w w' ∧ ResOK w.heap.size w' v' r := fun hfin => by
    obtain ⟨v, h1, h2⟩ := fin_ok (P := P) hΓ (fun _ h => h) hc' hfin
    exact ⟨hc'.defers, v, h1, v, rfl, ⟨hc'.keep.os, hc'.keep.tape, hc'.keep.output, hc'.keep.size, fun k hk => hc'.keep.block k hk (fun h => h)⟩, h2⟩
  cases e with
  | normal => exact key hK
  | ret => exact key hK
  | exit id => exact hK.elim
end
end Go.Sim
