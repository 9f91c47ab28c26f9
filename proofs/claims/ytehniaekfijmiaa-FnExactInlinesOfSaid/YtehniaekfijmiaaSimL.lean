/- Code: the region, the sequence, the choice, the block and the loop; states compared up to the names of what is the call's own. -/
import Derived.Test.YtehniaekfijmiaaSimU
namespace Go.Sim
open Go.RowKit
abbrev Ren := List (Id × Option (Id × Option Nat))
def rget : Ren → Id → Option (Option (Id × Option Nat))
  | [], _ => none
  | (i, x) :: r, o => bif idEq o i then some x else rget r o
def oneEq : Option (Id × Option Nat) → Option (Id × Option Nat) → Prop
  | none, none => True
  | some (a, none), some (b, none) => idEq a b = true
  | some (a, some k), some (b, some k') => idEq a b = true ∧ k = k'
  | _, _ => False
def tie (r : Ren) (o : Id) (x : Option (Id × Option Nat)) (K : Ren → Prop) : Prop :=
  match rget r o with
  | some y => oneEq y x ∧ K r
  | none => K ((o, x) :: r)
def leC (r : Ren) : AC → AC → (Ren → Prop) → Prop
  | .t x, .t y, K => x = y ∧ K r
  | .f x, .t y, K => x = y ∧ K r
  | .f x, .f y, K => x = y ∧ K r
  | .nils _, .t y, K => (∃ sz, y = .lst sz []) ∧ K r
  | .nils _, .f y, K => (∃ sz, y = .lst sz []) ∧ K r
  | .nils _, .nils _, K => K r
  | .nils _, .own o', K => tie r o' none K
  | .nilp, .nilp, K => K r
  | .own o, .own o', K => tie r o' (some (o, none)) K
  | .sub o k, .sub o' k', K => k = k' ∧ tie r o' (some (o, none)) K
  | .sub o k, .own o', K => tie r o' (some (o, some k)) K
  | .ptr o n, .ptr o' n', K => n = n' ∧ tie r o' (some (o, none)) K
  | .mpv o, .mpv o', K => tie r o' (some (o, none)) K
  | _, .opq, K => K r
  | _, _, _ => False
abbrev leCs (r : Ren) : List AC → List AC → (Ren → Prop) → Prop
  | [], [], K => K r
  | x :: xs, y :: ys, K => leC r x y fun r => leCs r xs ys K
  | _, _, _ => False
def leR (r : Ren) : AR → AR → (Ren → Prop) → Prop
  | .c x, .c y, K => leC r x y K
  | .agg xs, .agg ys, K => leCs r xs ys K
  | _, _, _ => False
abbrev leRs (r : Ren) : List AR → List AR → (Ren → Prop) → Prop
  | [], [], K => K r
  | x :: xs, y :: ys, K => leR r x y fun r => leRs r xs ys K
  | _, _, _ => False
def leV (r : Ren) (x : AV) : AV → (Ren → Prop) → Prop
  | .unk, K => K r
  | .r y, K => (match x with
     | .r x => leR r x y K
     | _ => False)
  | .tup ys, K => (match x with
     | .tup xs => leRs r xs ys K
     | _ => False)
  | .el o' sz' i' off', K => (match x with
     | .el o sz i off => sz = sz' ∧ i = i' ∧ off = off' ∧ tie r o' (some (o, none)) K
     | _ => False)
  | .ro fr' row' off', K => (match x with
     | .ro fr row off => fr = fr' ∧ row = row' ∧ off = off' ∧ K r
     | _ => False)
abbrev leFr (fr : List (Nat × AV)) : List (Nat × AV) → Ren → (Ren → Prop) → Prop
  | [], r, K => K r
  | (t, y) :: rest, r, K => leV r (look fr t) y fun r => leFr fr rest r K
def leB (m fr fr' : Bool) (rows : List (List Tr)) : Prop :=
  match fr' with
  | false => True
  | true => (match fr with
     | true => True
     | false => m = true ∧ flat rows)
def leO (m : Bool) (r : Ren) (cutAt : Option Nat) : AO → AO → (Ren → Prop) → Prop
  | .arr fr sz rows, .arr fr' sz' rows', K => (match cutAt with
     | none => sz = sz' ∧ rows = rows' ∧ leB m fr fr' rows' ∧ K r
     | some k => k ≤ rows.length ∧ sz = sz' ∧ rows.take k = rows' ∧ leB m fr fr' rows' ∧ K r)
  | .box xs, .box ys, K => (match cutAt with
     | none => leCs r xs ys K
     | some _ => False)
  | .dar sz rows none, .dar sz' rows' none, K => (match cutAt with
     | none => sz = sz' ∧ rows = rows' ∧ K r
     | some k => k ≤ rows.length ∧ sz = sz' ∧ rows.take k = rows' ∧ K r)
  | .arr _ sz rows, .dar sz' rows' none, K => (match cutAt with
     | none => sz = sz' ∧ flat rows ∧ deepRows rows = rows' ∧ K r
     | some _ => False)
  | .dar sz rows none, .arr fr' sz' rows', K => (match cutAt with
     | none => sz = sz' ∧ rows = deepRows rows' ∧ (!fr' || m) = true ∧ K r
     | some _ => False)
  | .mp kk es, .mp kk' es', K => (match cutAt with
     | none => kk = kk' ∧ es = es' ∧ K r
     | some _ => False)
  | _, _, _ => False
abbrev leH (m : Bool) (h : List (Id × Option AO)) : List (Id × Option AO) → Ren → (Ren → Prop) → Prop
  | [], r, K => K r
  | (_, none) :: rest, r, K => leH m h rest r K
  | (o', some x) :: rest, r, K => (match rget r o' with
     | some none => (match x with
        | .arr _ _ rows => rows = [] ∧ leH m h rest r K
        | .dar _ rows none => rows = [] ∧ leH m h rest r K
        | _ => False)
     | some (some (o, c)) => (match hget h o with
        | some y => leO m r c y x fun r => leH m h rest r K
        | none => False)
     | none => False)
def renIn (o : Id) : Ren → Bool
  | [] => false
  | (_, some (o', _)) :: r => idEq o o' || renIn o r
  | (_, none) :: r => renIn o r
def renOk : Ren → Bool
  | [] => true
  | (_, some (o, _)) :: r => !renIn o r && renOk r
  | (_, none) :: r => renOk r
def usedIn (u : List Nat) : List Id → Bool
  | [] => true
  | o :: l => used u o.1 && usedIn u l
def usedFr (u : List Nat) : List (Nat × AV) → Bool
  | [] => true
  | (_, v) :: l => usedIn u v.ids && usedFr u l
def usedH (u : List Nat) : List (Id × Option AO) → Bool
  | [] => true
  | (o, some x) :: l => used u o.1 && (usedIn u x.ids && usedH u l)
  | (_, none) :: l => usedH u l
def pOk (r : Ren) : Bool := r.all fun p => !(Nat.beq p.1.1 0) || (match p.2 with
  | some (o, none) => idEq o p.1
  | _ => false)
def initR (m : Bool) : List (Id × Option AO) → Ren
  | [] => []
  | (o, some _) :: l => (match !m && Nat.beq o.1 0 with
     | true => (o, some (o, none)) :: initR m l
     | false => initR m l)
  | (_, none) :: l => initR m l
def Leq (m : Bool) (st st' : St) : Prop :=
  ((usedFr st'.u st'.fr && usedH st'.u st'.h) && (m || used st'.u 0)) = true ∧ leFr st.fr st'.fr (initR m st'.h) fun r => leH m st.h st'.h r fun r => (renOk r && (m || pOk r)) = true
def holesOf : List (Id × Option AO) → List Id → List Id
  | [], _ => []
  | (o, x) :: l, seen => (match memI o seen with
     | true => holesOf l seen
     | false => (match x with
        | some (.dar _ _ (some _)) => o :: holesOf l (o :: seen)
        | _ => holesOf l (o :: seen)))
abbrev closeAll : List Id → St → (St → Prop) → Prop
  | [], st, K => K st
  | o :: l, st, K => closeAt (hget st.h) (.el o 0 0 0) fun _ us _ => hpushK us st.h fun h => closeAll l ⟨st.fr, h, st.u⟩ K
def LeqG (m : Bool) (st st' : St) : Prop := closeAll (holesOf st.h []) st fun st => Leq m st st'
inductive Out where
  | normal
  | exit (id : Nat)
  | ret
def Out.at : Out → Exit
  | .normal => .normal
  | .exit id => .exit id
  | .ret => .ret
def litc (st : St) (c : Operand) (b : Bool) : St :=
  match c with
  | .tmp t => lit st t b
  | _ => st
def wReg (P : Program) (Γ : Env) (N : Nat) (ops : List Oper) (draw : Bool) (st : St) (K : St → Prop) : Prop :=
  match draw with
  | false => wOps P Γ N ops ops st [] fun st' _ => K st'
  | true => (wOps P Γ N ops ops st [] fun st' log => regOk ops log.reverse = true ∧ K st') ∨ ∃ xi xj : Nat, wRegX P Γ N ops xi xj st K
def W (m : Bool) (P : Program) (Γ : Env) (N : Nat) : Code → (Out → St → Prop) → St → Prop
  | .skip, K, st => K .normal st
  | .label _, K, st => K .normal st
  | .region _ ops draw, K, st => wReg P Γ N ops.toList draw st (K .normal)
  | .seq x y, K, st => W m P Γ N x (fun e st' => (match e with
      | .normal => W m P Γ N y K st'
      | e => K e st')) st ∨
      ∃ (ι : Type) (S : ι → St), W m P Γ N x (fun e st' => (match e with
        | .normal => ∃ i, LeqG m st' (S i)
        | e => K e st')) st ∧ ∀ i, W m P Γ N y K (S i)
  | .cond c x y, K, st => (match evL (look st.fr) c with
      | .r (.c (.t (.bool b))) => ifB b (W m P Γ N x K (litc st c true)) (W m P Γ N y K (litc st c false))
      | _ => False)
  | .block id c, K, st => W m P Γ N c (fun e st' => (match e with
      | .exit id' => (match Nat.beq id' id with
          | true => K .normal st'
          | false => K (.exit id') st')
      | e => K e st')) st
  | .loop c, K, st => ∃ (ι : Type) (S : ι → St) (μ : ι → Nat) (i0 : ι), LeqG m st (S i0) ∧ ∀ i, W m P Γ N c (fun e st' => (match e with
      | .normal => ∃ j, LeqG m st' (S j) ∧ μ j < μ i
      | e => K e st')) (S i)
  | .exit id, K, st => K (.exit id) st
  | .ret, K, st => K .ret st
  | _, _, _ => False
theorem reg_inl {A : Prop} {Q : Nat → Nat → Prop} (h : A) : A ∨ ∃ xi xj : Nat, Q xi xj := Or.inl h
theorem reg_inr {A : Prop} {Q : Nat → Nat → Prop} (xi xj : Nat) (h : Q xi xj) : A ∨ ∃ xi xj : Nat, Q xi xj := Or.inr ⟨xi, xj, h⟩
section
variable {P : Program} {Γ : Env} {N B : Nat} {M : Nat → Prop} {w0 : Start} {w : World} {ρ : Rho} {st st' : St} {a : Act} {m : Bool}
def Ext (r r' : Ren) : Prop := ∀ o x, rget r o = some x → rget r' o = some x
theorem Ext.refl (r : Ren) : Ext r r := fun _ _ h => h
theorem Ext.trans {r r' r'' : Ren} (h : Ext r r') (h' : Ext r' r'') : Ext r r'' := fun o x hx => h' o x (h o x hx)
theorem ext_cons {r : Ren} {o : Id} {x : Option (Id × Option Nat)} (h : rget r o = none) : Ext r ((o, x) :: r) := by
  intro o' x' h'
  rw [rget]
  cases hb : idEq o' o with
  | true => rw [idEq_iff.1 hb, h] at h'; cases h'
  | false => exact h'
def vrv (ρ : Id → Value) : Option (Id × Option Nat) → Value
  | some (o, none) => ρ o
  | some (o, some k) => (match ρ o with
     | .slice A _ c => .slice A k c
     | v => v)
  | none => .slice none 0 0
def vr (ρ : Id → Value) (r : Ren) (o : Id) : Value :=
  match rget r o with
  | some x => vrv ρ x
  | none => ρ o
theorem vr_of {ρ : Id → Value} {r : Ren} {o : Id} {x : Option (Id × Option Nat)} (h : rget r o = some x) : vr ρ r o = vrv ρ x := by unfold vr; rw [h]
theorem oneEq_iff {x y : Option (Id × Option Nat)} (h : oneEq x y) : x = y := by
  unfold oneEq at h
  split at h
  · rfl
  · rw [idEq_iff.1 h]
  · rw [idEq_iff.1 h.1, h.2]
  · exact h.elim
theorem tie_ok {r : Ren} {o : Id} {x : Option (Id × Option Nat)} {K : Ren → Prop} (h : tie r o x K) : ∃ r', Ext r r' ∧ rget r' o = some x ∧ K r' := by
  unfold tie at h
  split at h
  · rename_i y hy
    exact ⟨r, .refl r, by rw [hy, oneEq_iff h.1], h.2⟩
  · rename_i hy
    exact ⟨_, ext_cons hy, by rw [rget, idEq_iff.2 rfl]; rfl, h⟩
def relrC (r : Ren) (x y : AC) : Prop := ∀ {B : Nat} {ρ ρ' : Rho} {w : World} {ok ok' : Nat → Prop} {v : Value}, (∀ o, ρ' o = vr ρ r o) → (∀ b, ok b → ok' b) → RC B ρ w ok v x → RC B ρ' w ok' v y
def relrCs (r : Ren) (x y : List AC) : Prop := ∀ {B : Nat} {ρ ρ' : Rho} {w : World} {ok ok' : Nat → Prop} {v : List Value}, (∀ o, ρ' o = vr ρ r o) → (∀ b, ok b → ok' b) → RCs B ρ w ok v x → RCs B ρ' w ok' v y
def relrR (r : Ren) (x y : AR) : Prop := ∀ {B : Nat} {ρ ρ' : Rho} {w : World} {ok ok' : Nat → Prop} {v : Value}, (∀ o, ρ' o = vr ρ r o) → (∀ b, ok b → ok' b) → RR B ρ w ok v x → RR B ρ' w ok' v y
def relrRs (r : Ren) (x y : List AR) : Prop := ∀ {B : Nat} {ρ ρ' : Rho} {w : World} {ok ok' : Nat → Prop} {v : List Value}, (∀ o, ρ' o = vr ρ r o) → (∀ b, ok b → ok' b) → RRs B ρ w ok v x → RRs B ρ' w ok' v y
def relrV (r : Ren) (x y : AV) : Prop := ∀ {B : Nat} {ρ ρ' : Rho} {w : World} {ok ok' : Nat → Prop} {v : Value}, (∀ o, ρ' o = vr ρ r o) → (∀ b, ok b → ok' b) → RV B ρ w ok v x → RV B ρ' w ok' v y
theorem RT.up {w : World} {ok ok' : Nat → Prop} {v : Value} {t : Tr} (h : RT w ok v t) (hk : ∀ b, ok b → ok' b) : RT w ok' v t := h.keep fun b hb => ⟨rfl, hk b hb⟩
theorem leC_ok {r : Ren} {x y : AC} {K : Ren → Prop} (h : leC r x y K) : ∃ r', Ext r r' ∧ (∀ f, Ext r' f → relrC f x y) ∧ K r' := by
  cases x <;> cases y <;> simp only [leC] at h
  case t.t => exact ⟨r, .refl r, fun f _ B ρ ρ' w ok ok' v hρ hk hv => by rw [← h.1]; exact RT.up hv hk, h.2⟩
  case f.t => exact ⟨r, .refl r, fun f _ B ρ ρ' w ok ok' v hρ hk hv => by rw [← h.1]; exact RT.up hv fun b hb => hk b hb.1, h.2⟩
  case f.f => exact ⟨r, .refl r, fun f _ B ρ ρ' w ok ok' v hρ hk hv => by rw [← h.1]; exact RT.up hv fun b hb => ⟨hk b hb.1, hb.2⟩, h.2⟩
  case nils.t => obtain ⟨⟨sz, rfl⟩, h⟩ := h; exact ⟨r, .refl r, fun f _ B ρ ρ' w ok ok' v hρ hk hv => by rw [show v = _ from hv]; exact .emp _ _ _ (by simp [maxLen]), h⟩
  case nils.f => obtain ⟨⟨sz, rfl⟩, h⟩ := h; exact ⟨r, .refl r, fun f _ B ρ ρ' w ok ok' v hρ hk hv => by rw [show v = _ from hv]; exact .emp _ _ _ (by simp [maxLen]), h⟩
  case nils.nils => exact ⟨r, .refl r, fun f _ B ρ ρ' w ok ok' v hρ hk hv => hv, h⟩
  case nilp.nilp => exact ⟨r, .refl r, fun f _ B ρ ρ' w ok ok' v hρ hk hv => hv, h⟩
  case t.opq | f.opq | nils.opq | nilp.opq | own.opq | sub.opq | ptr.opq | opq.opq | mpv.opq => exact ⟨r, .refl r, fun f _ B ρ ρ' w ok ok' v hρ hk hv => ⟨RC.one hv, RC.cells1 hv⟩, h⟩
  case nils.own =>
    obtain ⟨r', h1, h2, h3⟩ := tie_ok h
    refine ⟨r', h1, fun f hf B ρ ρ' w ok ok' v hρ hk hv => ?_, h3⟩
    have e := hf _ _ h2
    have e' := (hρ _).trans (vr_of (ρ := ρ) e)
    simp only [vrv] at e'
    simp only [RC, e'] at hv ⊢
    exact ⟨⟨_, _, _, rfl⟩, hv⟩
  case own.own =>
    obtain ⟨r', h1, h2, h3⟩ := tie_ok h
    refine ⟨r', h1, fun f hf B ρ ρ' w ok ok' v hρ hk hv => ?_, h3⟩
    have e := hf _ _ h2
    have e' := (hρ _).trans (vr_of (ρ := ρ) e)
    simp only [vrv] at e'
    simp only [RC, e'] at hv ⊢
    exact hv
  case sub.own =>
    obtain ⟨r', h1, h2, h3⟩ := tie_ok h
    refine ⟨r', h1, fun f hf B ρ ρ' w ok ok' v hρ hk hv => ?_, h3⟩
    have e := hf _ _ h2
    have e' := (hρ _).trans (vr_of (ρ := ρ) e)
    simp only [vrv] at e'
    simp only [RC, e'] at hv ⊢
    obtain ⟨A, n, c, g1, g2, g3⟩ := hv
    rw [g1]
    exact ⟨⟨_, _, _, rfl⟩, g2⟩
  case sub.sub =>
    obtain ⟨hk', h⟩ := h
    subst hk'
    obtain ⟨r', h1, h2, h3⟩ := tie_ok h
    refine ⟨r', h1, fun f hf B ρ ρ' w ok ok' v hρ hk hv => ?_, h3⟩
    have e := hf _ _ h2
    have e' := (hρ _).trans (vr_of (ρ := ρ) e)
    simp only [vrv] at e'
    simp only [RC, e'] at hv ⊢
    exact hv
  case mpv.mpv =>
    obtain ⟨r', h1, h2, h3⟩ := tie_ok h
    refine ⟨r', h1, fun f hf B ρ ρ' w ok ok' v hρ hk hv => ?_, h3⟩
    have e := hf _ _ h2
    have e' := (hρ _).trans (vr_of (ρ := ρ) e)
    simp only [vrv] at e'
    simp only [RC, e'] at hv ⊢
    exact hv
  case ptr.ptr =>
    obtain ⟨hk', h⟩ := h
    subst hk'
    obtain ⟨r', h1, h2, h3⟩ := tie_ok h
    refine ⟨r', h1, fun f hf B ρ ρ' w ok ok' v hρ hk hv => ?_, h3⟩
    have e := hf _ _ h2
    have e' := (hρ _).trans (vr_of (ρ := ρ) e)
    simp only [vrv] at e'
    simp only [RC, e'] at hv ⊢
    exact hv
theorem leCs_ok : ∀ {xs ys : List AC} {r : Ren} {K : Ren → Prop}, leCs r xs ys K → ∃ r', Ext r r' ∧ (∀ f, Ext r' f → relrCs f xs ys) ∧ K r'
  | [], [], r, K, h => ⟨r, .refl r, fun f _ B ρ ρ' w ok ok' v hρ hk hv => by cases v <;> simp [RCs] at hv ⊢, h⟩
  | x :: xs, y :: ys, r, K, h => by
    obtain ⟨r1, h1, h2, h3⟩ := leC_ok h
    obtain ⟨r2, h4, h5, h6⟩ := leCs_ok h3
    refine ⟨r2, h1.trans h4, fun f hf B ρ ρ' w ok ok' v hρ hk hv => ?_, h6⟩
    cases v with
    | nil => exact hv.elim
    | cons v vs => exact ⟨h2 f (h4.trans hf) hρ hk hv.1, h5 f hf hρ hk hv.2⟩
  | [], _ :: _, _, _, h => h.elim
  | _ :: _, [], _, _, h => h.elim
theorem leR_ok {r : Ren} {x y : AR} {K : Ren → Prop} (h : leR r x y K) : ∃ r', Ext r r' ∧ (∀ f, Ext r' f → relrR f x y) ∧ K r' := by
  cases x <;> cases y <;> simp only [leR] at h
  case c.c => exact leC_ok h
  case agg.agg =>
    obtain ⟨r1, h1, h2, h3⟩ := leCs_ok h
    exact ⟨r1, h1, fun f hf B ρ ρ' w ok ok' v hρ hk hv => let ⟨us, e, hu⟩ := hv; ⟨us, e, h2 f hf hρ hk hu⟩, h3⟩
theorem leRs_ok : ∀ {xs ys : List AR} {r : Ren} {K : Ren → Prop}, leRs r xs ys K → ∃ r', Ext r r' ∧ (∀ f, Ext r' f → relrRs f xs ys) ∧ K r'
  | [], [], r, K, h => ⟨r, .refl r, fun f _ B ρ ρ' w ok ok' v hρ hk hv => by cases v <;> simp [RRs] at hv ⊢, h⟩
  | x :: xs, y :: ys, r, K, h => by
    obtain ⟨r1, h1, h2, h3⟩ := leR_ok h
    obtain ⟨r2, h4, h5, h6⟩ := leRs_ok h3
    refine ⟨r2, h1.trans h4, fun f hf B ρ ρ' w ok ok' v hρ hk hv => ?_, h6⟩
    cases v with
    | nil => exact hv.elim
    | cons v vs => exact ⟨h2 f (h4.trans hf) hρ hk hv.1, h5 f hf hρ hk hv.2⟩
  | [], _ :: _, _, _, h => h.elim
  | _ :: _, [], _, _, h => h.elim
theorem leV_ok {r : Ren} {x y : AV} {K : Ren → Prop} (h : leV r x y K) : ∃ r', Ext r r' ∧ (∀ f, Ext r' f → relrV f x y) ∧ K r' := by
  cases y with
  | unk => exact ⟨r, .refl r, fun f _ B ρ ρ' w ok ok' v hρ hk hv => trivial, h⟩
  | r y =>
    cases x <;> simp only [leV] at h
    exact leR_ok h
  | tup ys =>
    cases x <;> simp only [leV] at h
    obtain ⟨r1, h1, h2, h3⟩ := leRs_ok h
    exact ⟨r1, h1, fun f hf B ρ ρ' w ok ok' v hρ hk hv => let ⟨us, e, hu⟩ := hv; ⟨us, e, h2 f hf hρ hk hu⟩, h3⟩
  | el o' sz i off =>
    cases x <;> simp only [leV] at h
    obtain ⟨rfl, rfl, rfl, h⟩ := h
    obtain ⟨r', h1, h2, h3⟩ := tie_ok h
    refine ⟨r', h1, fun f hf B ρ ρ' w ok ok' v hρ hk hv => ?_, h3⟩
    have e := hf _ _ h2
    have e' := (hρ _).trans (vr_of (ρ := ρ) e)
    simp only [vrv] at e'
    simp only [RV, e'] at hv ⊢
    exact hv
  | ro fr row off =>
    cases x <;> simp only [leV] at h
    obtain ⟨rfl, rfl, rfl, h⟩ := h
    refine ⟨r, .refl r, fun f hf B ρ ρ' w ok ok' v hρ hk hv => ?_, h⟩
    exact RV.keep (ρ := ρ) (ρ' := ρ') (w := w) (w' := w) (x := .ro _ _ _) hv (fun b hb => ⟨rfl, hk b hb⟩) (by simp [AV.ids])
theorem leFr_ok {fr : List (Nat × AV)} : ∀ {l : List (Nat × AV)} {r : Ren} {K : Ren → Prop}, leFr fr l r K → ∃ r', Ext r r' ∧ (∀ f, Ext r' f → ∀ t y, (t, y) ∈ l → relrV f (look fr t) y) ∧ K r'
  | [], r, K, h => ⟨r, .refl r, fun _ _ t y hm => (by cases hm), h⟩
  | (t, y) :: l, r, K, h => by
    obtain ⟨r1, h1, h2, h3⟩ := leV_ok h
    obtain ⟨r2, h4, h5, h6⟩ := leFr_ok h3
    refine ⟨r2, h1.trans h4, fun f hf t' y' hm => ?_, h6⟩
    rcases List.mem_cons.1 hm with he | hm
    · injection he with e1 e2; subst e1; subst e2; exact fun hρ hk hv => h2 f (h4.trans hf) hρ hk hv
    · exact fun hρ hk hv => h5 f hf t' y' hm hρ hk hv
def relH (m : Bool) (f : Ren) (h : List (Id × Option AO)) (o' : Id) (x : AO) : Prop :=
  (rget f o' = some none ∧ ((∃ fr sz, x = .arr fr sz []) ∨ ∃ sz, x = .dar sz [] none)) ∨
  ∃ o c y, rget f o' = some (some (o, c)) ∧ hget h o = some y ∧
    ((c = none ∧ ∃ xs ys, y = .box xs ∧ x = .box ys ∧ relrCs f xs ys) ∨
     (∃ fr sz rows fr' rows', y = .arr fr sz rows ∧ x = .arr fr' sz rows' ∧ leB m fr fr' rows' ∧ ((c = none ∧ rows' = rows) ∨ ∃ k, c = some k ∧ k ≤ rows.length ∧ rows' = rows.take k)) ∨
     (∃ sz rows rows', y = .dar sz rows none ∧ x = .dar sz rows' none ∧ ((c = none ∧ rows' = rows) ∨ ∃ k, c = some k ∧ k ≤ rows.length ∧ rows' = rows.take k)) ∨
     (c = none ∧ ∃ fr sz rows, y = .arr fr sz rows ∧ flat rows ∧ x = .dar sz (deepRows rows) none) ∨
     (c = none ∧ ∃ sz rows fr, y = .dar sz (deepRows rows) none ∧ x = .arr fr sz rows ∧ (fr = true → m = true)) ∨
     (c = none ∧ ∃ kk es, y = .mp kk es ∧ x = .mp kk es))
theorem leH_ok {h : List (Id × Option AO)} : ∀ {l : List (Id × Option AO)} {r : Ren} {K : Ren → Prop}, leH m h l r K → ∃ r', Ext r r' ∧ (∀ f, Ext r' f → ∀ o x, (o, some x) ∈ l → relH m f h o x) ∧ K r'
  | [], r, K, hh => ⟨r, .refl r, fun _ _ o x hm => (by cases hm), hh⟩
  | (o', none) :: l, r, K, hh => by
    obtain ⟨r1, h1, h2, h3⟩ := leH_ok (l := l) hh
    refine ⟨r1, h1, fun f hf o x hm => ?_, h3⟩
    rcases List.mem_cons.1 hm with he | hm
    · injection he with e1 e2; cases e2
    · exact h2 f hf o x hm
  | (o', some z) :: l, r, K, hh => by
    have one : ∀ {r0 : Ren}, Ext r r0 → leH m h l r0 K → (∀ f, Ext r0 f → relH m f h o' z) → ∃ r', Ext r r' ∧ (∀ f, Ext r' f → ∀ o x, (o, some x) ∈ (o', some z) :: l → relH m f h o x) ∧ K r' := by
      intro r0 h0 hh hz
      obtain ⟨r1, h1, h2, h3⟩ := leH_ok (l := l) hh
      refine ⟨r1, h0.trans h1, fun f hf o x hm => ?_, h3⟩
      rcases List.mem_cons.1 hm with he | hm
      · injection he with e1 e2
        injection e2 with e2
        subst e1; subst e2
        exact hz f (h1.trans hf)
      · exact h2 f hf o x hm
    unfold leH at hh
    split at hh
    · rename_i hr
      split at hh
      · rename_i fr sz rows
        obtain ⟨rfl, hh⟩ := hh
        exact one (.refl r) hh fun f hf => .inl ⟨hf _ _ hr, .inl ⟨_, _, rfl⟩⟩
      · rename_i sz rows
        obtain ⟨rfl, hh⟩ := hh
        exact one (.refl r) hh fun f hf => .inl ⟨hf _ _ hr, .inr ⟨_, rfl⟩⟩
      · exact hh.elim
    · rename_i o0 c hr
      split at hh
      · rename_i y hy
        unfold leO at hh
        split at hh
        · rename_i fr sz rows fr' sz' rows'
          have key : sz = sz' ∧ leB m fr fr' rows' ∧ ((c = none ∧ rows' = rows) ∨ ∃ k, c = some k ∧ k ≤ rows.length ∧ rows' = rows.take k) ∧ leH m h l r K := by
            cases c with
            | none => obtain ⟨a1, a2, a3, a4⟩ := (show _ ∧ _ ∧ _ ∧ _ from hh); exact ⟨a1, a3, .inl ⟨rfl, a2.symm⟩, a4⟩
            | some k => obtain ⟨a0, a1, a2, a3, a4⟩ := (show _ ∧ _ ∧ _ ∧ _ ∧ _ from hh); exact ⟨a1, a3, .inr ⟨k, rfl, a0, a2.symm⟩, a4⟩
          obtain ⟨rfl, k1, k2, hh⟩ := key
          exact one (.refl r) hh fun f hf => .inr ⟨o0, c, _, hf _ _ hr, hy, .inr (.inl ⟨fr, sz, rows, fr', rows', rfl, rfl, k1, k2⟩)⟩
        · rename_i xs ys
          cases c with
          | some _ => exact hh.elim
          | none =>
            obtain ⟨r1, h1, h2, h3⟩ := leCs_ok (show leCs r xs ys _ from hh)
            exact one h1 h3 fun f hf => .inr ⟨o0, none, _, (h1.trans hf) _ _ hr, hy, .inl ⟨rfl, xs, ys, rfl, rfl, fun hρ hk hv => h2 f hf hρ hk hv⟩⟩
        · rename_i sz rows sz' rows'
          have key : sz = sz' ∧ ((c = none ∧ rows' = rows) ∨ ∃ k, c = some k ∧ k ≤ rows.length ∧ rows' = rows.take k) ∧ leH m h l r K := by
            cases c with
            | none => obtain ⟨a1, a2, a4⟩ := (show _ ∧ _ ∧ _ from hh); exact ⟨a1, .inl ⟨rfl, a2.symm⟩, a4⟩
            | some k => obtain ⟨a0, a1, a2, a4⟩ := (show _ ∧ _ ∧ _ ∧ _ from hh); exact ⟨a1, .inr ⟨k, rfl, a0, a2.symm⟩, a4⟩
          obtain ⟨rfl, k2, hh⟩ := key
          exact one (.refl r) hh fun f hf => .inr ⟨o0, c, _, hf _ _ hr, hy, .inr (.inr (.inl ⟨sz, rows, rows', rfl, rfl, k2⟩))⟩
        · rename_i fr sz rows sz' rows'
          cases c with
          | some _ => exact hh.elim
          | none =>
            obtain ⟨rfl, a2, rfl, a4⟩ := (show _ ∧ _ ∧ _ ∧ _ from hh)
            exact one (.refl r) a4 fun f hf => .inr ⟨o0, none, _, hf _ _ hr, hy, .inr (.inr (.inr (.inl ⟨rfl, fr, sz, rows, rfl, a2, rfl⟩)))⟩
        · rename_i sz rows fr' sz' rows'
          cases c with
          | some _ => exact hh.elim
          | none =>
            obtain ⟨rfl, rfl, a3, a4⟩ := (show _ ∧ _ ∧ _ ∧ _ from hh)
            exact one (.refl r) a4 fun f hf => .inr ⟨o0, none, _, hf _ _ hr, hy, .inr (.inr (.inr (.inr (.inl ⟨rfl, sz, rows', fr', rfl, rfl, fun e => by subst e; simpa using a3⟩))))⟩
        · rename_i kk es kk' es'
          cases c with
          | some _ => exact hh.elim
          | none =>
            obtain ⟨rfl, rfl, a4⟩ := (show _ ∧ _ ∧ _ from hh)
            exact one (.refl r) a4 fun f hf => .inr ⟨o0, none, _, hf _ _ hr, hy, .inr (.inr (.inr (.inr (.inr ⟨rfl, kk, es, rfl, rfl⟩))))⟩
        · exact hh.elim
      · exact hh.elim
    · exact hh.elim
theorem hget_mem : ∀ {h : List (Id × Option AO)} {o : Id} {x : AO}, hget h o = some x → (o, some x) ∈ h
  | [], _, _, h => by simp [hget] at h
  | (i, y) :: r, o, x, h => by
    rw [hget] at h
    cases hb : idEq o i with
    | true => rw [hb] at h; have := idEq_iff.1 hb; subst this; simp only [cond_true] at h; rw [h]; simp
    | false => rw [hb] at h; exact List.mem_cons_of_mem _ (hget_mem h)
theorem look_mem : ∀ (fr : List (Nat × AV)) (t : Nat), look fr t = .unk ∨ (t, look fr t) ∈ fr
  | [], _ => .inl rfl
  | (i, y) :: r, t => by
    rw [look]
    cases hb : Nat.beq t i with
    | true => have := Nat.eq_of_beq_eq_true hb; subst this; right; simp
    | false => exact (look_mem r t).imp id (List.mem_cons_of_mem _)
theorem renIn_of : ∀ {r : Ren} {o' o : Id} {c : Option Nat}, rget r o' = some (some (o, c)) → renIn o r = true
  | [], _, _, _, h => by simp [rget] at h
  | (i, x) :: r, o', o, c, h => by
    rw [rget] at h
    cases hb : idEq o' i with
    | true =>
      rw [hb] at h
      simp only [cond_true, Option.some.injEq] at h
      subst h
      simp [renIn, idEq_iff.2 rfl]
    | false =>
      rw [hb] at h
      have := renIn_of (r := r) h
      cases x <;> simp [renIn, this]
theorem renOk_inj : ∀ {r : Ren} {o1 o2 o : Id} {c1 c2 : Option Nat}, renOk r = true → rget r o1 = some (some (o, c1)) → rget r o2 = some (some (o, c2)) → o1 = o2
  | [], _, _, _, _, _, _, h, _ => by simp [rget] at h
  | (i, x) :: r, o1, o2, o, c1, c2, hr, h1, h2 => by
    rw [rget] at h1 h2
    have hr' : renOk r = true := by
      cases x with
      | none => exact hr
      | some p => simp only [renOk, Bool.and_eq_true] at hr; exact hr.2
    have hno : ∀ c, x = some (o, c) → renIn o r = false := fun c hx => by
      subst hx
      simp only [renOk, Bool.and_eq_true, Bool.not_eq_true'] at hr
      exact hr.1
    cases hb1 : idEq o1 i with
    | true =>
      rw [hb1] at h1
      simp only [cond_true, Option.some.injEq] at h1
      cases hb2 : idEq o2 i with
      | true => exact (idEq_iff.1 hb1).trans (idEq_iff.1 hb2).symm
      | false =>
        rw [hb2] at h2
        have := renIn_of (r := r) h2
        rw [hno c1 h1] at this
        cases this
    | false =>
      rw [hb1] at h1
      cases hb2 : idEq o2 i with
      | true =>
        rw [hb2] at h2
        simp only [cond_true, Option.some.injEq] at h2
        have := renIn_of (r := r) h1
        rw [hno c2 h2] at this
        cases this
      | false =>
        rw [hb2] at h2
        exact renOk_inj hr' h1 h2
theorem usedIn_ok {u : List Nat} : ∀ {l : List Id}, usedIn u l = true → ∀ o ∈ l, used u o.1 = true
  | [], _, o, ho => by cases ho
  | i :: l, h, o, ho => by
    simp only [usedIn, Bool.and_eq_true] at h
    rcases List.mem_cons.1 ho with rfl | ho
    · exact h.1
    · exact usedIn_ok h.2 o ho
theorem usedFr_ok {u : List Nat} : ∀ {l : List (Nat × AV)}, usedFr u l = true → ∀ t v, (t, v) ∈ l → ∀ o ∈ v.ids, used u o.1 = true
  | [], _, t, v, hm => by cases hm
  | (i, x) :: l, h, t, v, hm => by
    simp only [usedFr, Bool.and_eq_true] at h
    rcases List.mem_cons.1 hm with he | hm
    · injection he with e1 e2; subst e2; exact usedIn_ok h.1
    · exact usedFr_ok h.2 t v hm
theorem usedH_ok {u : List Nat} : ∀ {l : List (Id × Option AO)}, usedH u l = true → ∀ o x, (o, some x) ∈ l → used u o.1 = true ∧ ∀ o' ∈ x.ids, used u o'.1 = true
  | [], _, t, v, hm => by cases hm
  | (i, none) :: l, h, o, x, hm => by
    rcases List.mem_cons.1 hm with he | hm
    · injection he with e1 e2; cases e2
    · exact usedH_ok (l := l) h o x hm
  | (i, some y) :: l, h, o, x, hm => by
    simp only [usedH, Bool.and_eq_true] at h
    rcases List.mem_cons.1 hm with he | hm
    · injection he with e1 e2; injection e2 with e2; subst e1; subst e2; exact ⟨h.1, usedIn_ok h.2.1⟩
    · exact usedH_ok h.2.2 o x hm
theorem RT.flat {w : World} {ok ok' : Nat → Prop} {v : Value} {t : Tr} (h : RT w ok v t) (hf : ∀ sz rs, t ≠ .lst sz rs) : RT w ok' v t := by
  cases h with
  | int k n => exact .int k n
  | bool b => exact .bool b
  | str s => exact .str s
  | emp _ _ sz => exact absurd rfl (hf _ _)
  | lst => exact absurd rfl (hf _ _)
theorem RTs.flat {w : World} {ok ok' : Nat → Prop} : ∀ {vs : List Value} {ts : List Tr}, RTs w ok vs ts → (∀ t ∈ ts, ∀ sz rs, t ≠ .lst sz rs) → RTs w ok' vs ts
  | [], [], _, _ => trivial
  | _ :: _, _ :: _, h, hf => ⟨h.1.flat (hf _ (by simp)), RTs.flat h.2 fun t ht => hf t (by simp [ht])⟩
  | [], _ :: _, h, _ => h.elim
  | _ :: _, [], h, _ => h.elim
theorem take_flatten {α : Type} {sz : Nat} : ∀ {rows : List (List α)} (k : Nat), (∀ r ∈ rows, r.length = sz) → k ≤ rows.length → (rows.take k).flatten = rows.flatten.take (k * sz)
  | _, 0, _, _ => by simp
  | [], _ + 1, _, h => by simp at h
  | r :: rows, k + 1, hu, h => by
    have hr := hu r (by simp)
    rw [List.take_succ_cons, List.flatten_cons, List.flatten_cons, take_flatten k (fun r hr => hu r (by simp [hr])) (by simpa using h), List.take_append, hr]
    rw [List.take_of_length_le (l := r) (by rw [hr, Nat.add_mul]; omega)]
    congr 2
    rw [Nat.add_mul]
    omega
theorem rget_mem : ∀ {r : Ren} {o : Id} {x : Option (Id × Option Nat)}, rget r o = some x → (o, x) ∈ r
  | [], _, _, h => by simp [rget] at h
  | (i, y) :: r, o, x, h => by
    rw [rget] at h
    cases hb : idEq o i with
    | true => rw [hb] at h; have := idEq_iff.1 hb; subst this; simp only [cond_true, Option.some.injEq] at h; subst h; simp
    | false => rw [hb] at h; exact List.mem_cons_of_mem _ (rget_mem h)
theorem RDs.take {ρ ρ' : Rho} {w : World} {ok ok' : Nat → Prop} {sz n : Nat} {Fp : Nat → Nat → Prop} {us : List Value} {cs : List DC} (h : RDs ρ w ok sz none Fp us cs) (hk : ∀ b, ok b → ok' b) : RDs ρ' w ok' sz none Fp (us.take n) (cs.take n) := by
  refine ⟨by rw [List.length_take, List.length_take, h.1], fun p v c hv hc => ?_⟩
  rw [List.getElem?_take] at hv hc
  split at hv
  · rename_i hp
    rw [if_pos hp] at hc
    have := h.2 p v c hv hc
    simp only [holeAt] at this ⊢
    exact this.keep (fun b hb => ⟨rfl, hk b hb⟩) fun b hb => ⟨rfl, hb⟩
  · cases hv
theorem Leq.ok' (hM : m = true → (∀ b, ¬ M b) ∧ ∀ o, w0.fx o = none) (hF : ∀ o v, w0.fx o = some v → o.1 = 0) (h : Leq m st st') (hc : Conc N B M w0 ρ st.fs a w) : ∃ ρ', Conc N B M w0 ρ' st'.fs a w ∧
    (∀ b, okB ρ st.fs.H w b → okB ρ' st'.fs.H w b) ∧
    ∀ (t : Nat) (v : Value) (ok ok' : Nat → Prop), (∀ b, ok b → ok' b) → RV B ρ w ok v (look st.fr t) → RV B ρ' w ok' v (look st'.fr t) := by
  obtain ⟨hu, h⟩ := h
  rw [Bool.and_eq_true, Bool.and_eq_true] at hu
  obtain ⟨hu, hu0⟩ := hu
  obtain ⟨r1, _, hL, h⟩ := leFr_ok h
  obtain ⟨f, h1, hH, hr0⟩ := leH_ok h
  rw [Bool.and_eq_true] at hr0
  obtain ⟨hr, hP⟩ := hr0
  have hL := hL f h1
  have hH := hH f (.refl f)
  let ρ' : Rho := ⟨vr ρ f, fun o c => (∃ sz rows hole, st'.fs.H o = some (.dar sz rows hole)) ∧ ∃ q k, rget f o = some (some (q, k)) ∧ ρ.fp q c, ρ.al⟩
  have hρ : ∀ o, ρ' o = vr ρ f o := fun _ => rfl
  have hat : ∀ {o : Id} {x : Option (Id × Option Nat)}, rget f o = some x → ρ' o = vrv ρ x := fun e => vr_of e
  refine ⟨ρ', ?_⟩
  have old : ∀ o x b, st'.fs.H o = some x → Own ρ' o b → ∃ q y c, rget f o = some (some (q, c)) ∧ st.fs.H q = some y ∧ Own ρ q b := by
    intro o x b ho hb
    rcases hH o x (hget_mem ho) with ⟨g1, _⟩ | ⟨q, c, y, g1, g2, _⟩
    · rcases hb with hb | ⟨_, q, k, e, _⟩
      · rw [hat g1] at hb; simp [vrv, blk] at hb
      · rw [g1] at e; cases e
    · refine ⟨q, y, c, g1, g2, ?_⟩
      rcases hb with hb | ⟨_, q', k, e, hf⟩
      · left
        rw [hat g1] at hb
        cases c with
        | none => exact hb
        | some k =>
          simp only [vrv] at hb
          split at hb
          · rename_i A n cc e
            rw [e]
            cases A <;> exact hb
          · exact hb
      · rw [g1] at e
        injection e with e; injection e with e; injection e with e1 e2
        subst e1
        exact .inr hf
  have hk : ∀ b, okB ρ st.fs.H w b → okB ρ' st'.fs.H w b := by
    intro b hb
    refine ⟨hb.1, fun o x ho he => ?_⟩
    obtain ⟨q, y, _, _, g2, g3⟩ := old o x b ho he
    exact hb.2 q y g2 g3
  refine ⟨?_, hk, fun t v ok ok' hok hv => ?_⟩
  rotate_left
  · rcases look_mem st'.fr t with e | hm
    · rw [e]; trivial
    · exact hL t _ hm hρ hok hv
  refine ⟨hc.size, hc.defers, fun t => ?_, fun o x ho => ?_, fun o o' x x' b ho ho' hne he he' => ?_, fun o x b ho he => ?_, hc.keep, hc.base, hc.alw, hc.cst, fun o v hv => ?_, fun t o ho => ?_, fun o x ho => ?_⟩
  · rcases look_mem st'.fr t with e | hm
    · show RV _ _ _ _ _ (look st'.fr t)
      rw [e]; trivial
    · exact hL t _ hm hρ hk (hc.slot t)
  · rcases hH o x (hget_mem ho) with ⟨g1, ⟨fr, sz, rfl⟩ | ⟨sz, rfl⟩⟩ | ⟨q, c, y, g1, g2, g3⟩
    · exact ⟨fun r hr => (by cases hr), .inl ⟨hat g1, rfl⟩⟩
    · exact ⟨fun r hr => (by cases hr), .inl ⟨hat g1, rfl, rfl⟩⟩
    · have hobj := hc.obj q y g2
      have hown := hat g1
      rcases g3 with ⟨rfl, xs, ys, rfl, rfl, g4⟩ | ⟨fr, sz, rows, fr', rows', rfl, rfl, g4, g5⟩ | ⟨sz, rows, rows', rfl, rfl, g5⟩ | ⟨rfl, fr, sz, rows, rfl, hfl, rfl⟩ | ⟨rfl, sz, rows, fr, rfl, rfl, hfr⟩ | ⟨rfl, kk, es, rfl, rfl⟩
      · obtain ⟨b, cur, t, fz, k1, k2, k3, k4⟩ := hobj
        exact ⟨b, cur, t, fz, by rw [hown]; exact k1, k2, k3, g4 hρ hk k4⟩
      · obtain ⟨hu1, hobj⟩ := hobj
        have hsub : ∀ r ∈ rows', r ∈ rows := by
          rcases g5 with ⟨_, rfl⟩ | ⟨k, _, _, rfl⟩
          · exact fun r h => h
          · exact fun r h => List.mem_of_mem_take h
        refine ⟨fun r hr => hu1 r (hsub r hr), ?_⟩
        rcases hobj with ⟨k1, k2⟩ | ⟨b, cap, cur, e, fz, k1, k2, k3, k4, k5, k6, k7, k8⟩
        · subst k2
          left
          rcases g5 with ⟨rfl, rfl⟩ | ⟨k, rfl, hle, rfl⟩
          · exact ⟨by rw [hown]; exact k1, rfl⟩
          · simp only [List.length_nil, Nat.le_zero] at hle
            subst hle
            exact ⟨by rw [hown]; simp only [vrv, k1], by simp⟩
        · right
          have hB : m = true → B ≤ b := fun hm => ((hc.rng q _ b g2 (.inl (by rw [k1]; rfl))).2).resolve_right ((hM hm).1 b)
          have tup : ∀ {l : List Value}, RTs w (okF B (okB ρ st.fs.H w) fr) l rows'.flatten → RTs w (okF B (okB ρ' st'.fs.H w) fr') l rows'.flatten := by
            intro l hl
            cases fr' with
            | false => exact hl.keep fun b hb => ⟨rfl, hk b hb.1, fun e => by cases e⟩
            | true =>
              cases fr with
              | true => exact hl.keep fun b hb => ⟨rfl, hk b hb.1, hb.2⟩
              | false =>
                refine hl.flat fun t ht => ?_
                obtain ⟨row, h1, h2⟩ := List.mem_flatten.1 ht
                exact g4.2 row h1 t h2
          have hfr : fr' = true → B ≤ b := by
            intro e
            subst e
            cases fr with
            | true => exact k8 rfl
            | false => exact hB g4.1
          rcases g5 with ⟨rfl, rfl⟩ | ⟨k, rfl, hle, rfl⟩
          · exact ⟨b, cap, cur, e, fz, by rw [hown]; exact k1, k2, k3, k4, k5, k6, tup k7, hfr⟩
          · refine ⟨b, cap, cur, e, fz, ?_, k2, k3, ?_, k5, k6, tup ?_, hfr⟩
            · rw [hown]
              simp only [vrv, k1, List.length_take, Nat.min_eq_left hle]
            · simp only [List.length_take]; omega
            · rw [take_flatten k hu1 hle]
              have : cur.toList.take ((rows.take k).length * sz) = (cur.toList.take (rows.length * sz)).take (k * sz) := by
                rw [List.take_take, List.length_take, Nat.min_eq_left hle]
                congr 1
                exact (Nat.min_eq_left (Nat.mul_le_mul_right _ hle)).symm
              rw [this]
              exact k7.take _
      · obtain ⟨hu1, hobj⟩ := hobj
        have hsub : ∀ r ∈ rows', r ∈ rows := by
          rcases g5 with ⟨_, rfl⟩ | ⟨k, _, _, rfl⟩
          · exact fun r h => h
          · exact fun r h => List.mem_of_mem_take h
        refine ⟨fun r hr => hu1 r (hsub r hr), ?_⟩
        rcases hobj with ⟨k1, k2, _⟩ | ⟨b, cap, cur, e, fz, Fp, k1, k2, k3, k4, k5, k6, k7, k8, k9⟩
        · subst k2
          left
          rcases g5 with ⟨rfl, rfl⟩ | ⟨k, rfl, hle, rfl⟩
          · exact ⟨by rw [hown]; exact k1, rfl, rfl⟩
          · simp only [List.length_nil, Nat.le_zero] at hle
            subst hle
            exact ⟨by rw [hown]; simp only [vrv, k1], by simp, rfl⟩
        · right
          have hfp : ∀ p d, Fp p d → ρ'.fp o d ∧ d ≠ b := fun p d hd => ⟨⟨⟨_, _, _, ho⟩, q, c, g1, (k7 p d hd).1⟩, (k7 p d hd).2⟩
          rcases g5 with ⟨rfl, rfl⟩ | ⟨k, rfl, hle, rfl⟩
          · exact ⟨b, cap, cur, e, fz, Fp, by rw [hown]; exact k1, k2, k3, k4, k5, k6, hfp, k8, k9.keep (fun c hc' => ⟨rfl, hk c hc'⟩) (fun p c hc' => ⟨rfl, hc'⟩) fun _ _ _ e => by cases e⟩
          · refine ⟨b, cap, cur, e, fz, Fp, ?_, k2, k3, ?_, k5, k6, hfp, k8, ?_⟩
            · rw [hown]
              simp only [vrv, k1, List.length_take, Nat.min_eq_left hle]
            · simp only [List.length_take]; omega
            · rw [take_flatten k hu1 hle]
              have : cur.toList.take ((rows.take k).length * sz) = (cur.toList.take (rows.length * sz)).take (k * sz) := by
                rw [List.take_take, List.length_take, Nat.min_eq_left hle]
                congr 1
                exact (Nat.min_eq_left (Nat.mul_le_mul_right _ hle)).symm
              rw [this]
              exact k9.take hk
      · exact (arr_DT hc g2 hfl).toDar hown fun d hd hne => hd.elim (fun e => absurd e hne) fun hd => ⟨⟨_, _, _, ho⟩, q, none, g1, hd⟩
      · obtain ⟨hu1, hobj⟩ := hobj
        refine ⟨fun r hr => ?_, ?_⟩
        · have := hu1 (r.map .d) (List.mem_map.2 ⟨r, hr, rfl⟩)
          simpa using this
        have hlen : (deepRows rows).length = rows.length := by simp [deepRows]
        rcases hobj with ⟨k1, k2, _⟩ | ⟨b, cap, cur, e, fz, Fp, k1, k2, k3, k4, k5, k6, k7, k8, k9⟩
        · left
          exact ⟨by rw [hown]; exact k1, by simpa [deepRows] using k2⟩
        · right
          rw [hlen] at k1 k4 k9
          rw [deep_flatten] at k9
          have hrng : ∀ d, Own ρ q d → fr = true → B ≤ d := fun d hd e => ((hc.rng q _ d g2 hd).2).resolve_right ((hM (hfr e)).1 d)
          have hb : Own ρ q b := .inl (by rw [k1]; rfl)
          have hin : ∀ p d, Fp p d → okF B (okB ρ' st'.fs.H w) fr d := fun p d hd => by
            obtain ⟨hd1, hd2⟩ := k7 p d hd
            have hr2 := hc.rng q _ d g2 (.inr hd1)
            refine ⟨⟨⟨hr2.1, hc.alw d hr2.2⟩, fun o2 x2 ho2 he2 => ?_⟩, hrng d (.inr hd1)⟩
            obtain ⟨q2, y2, c2, e1, e2, e3⟩ := old o2 x2 d ho2 he2
            by_cases e : q2 = q
            · subst e
              have := renOk_inj hr e1 g1
              subst this
              rcases he2 with he2 | ⟨⟨_, _, _, he2⟩, _⟩
              · rw [hown] at he2
                simp only [vrv, k1, blk] at he2
                injection he2 with he2
                exact hd2 he2.symm
              · rw [ho] at he2; injection he2 with he2; cases he2
            · exact hc.sep q2 q y2 _ d e2 g2 e e3 (.inr hd1)
          refine ⟨b, cap, cur, e, fz, by rw [hown]; exact k1, k2, k3, k4, k5, k6, RTs.of (by rw [k9.1, List.length_map]) fun p v t hv ht => ?_, hrng b hb⟩
          have := k9.2 p v (.d t) hv (by rw [List.getElem?_map, ht]; rfl)
          simp only [holeAt] at this
          exact DT.toRT this (hin p)
      · obtain ⟨b, ents, clock, k1, k2, k3⟩ := hobj
        exact ⟨b, ents, clock, by rw [hown]; exact k1, k2, k3⟩
  · obtain ⟨q, y, c, g1, g2, g3⟩ := old o x b ho he
    obtain ⟨q', y', c', g4, g5, g6⟩ := old o' x' b ho' he'
    by_cases e : q = q'
    · subst e
      exact hne (renOk_inj hr g1 g4)
    · exact hc.sep q q' y y' b g2 g5 e g3 g6
  · obtain ⟨q, y, c, g1, g2, g3⟩ := old o x b ho he
    exact hc.rng q y b g2 g3
  · cases m with
    | true => rw [(hM rfl).2 o] at hv; cases hv
    | false =>
      have h0 := hF o v hv
      simp only [Bool.false_or] at hP hu0
      refine ⟨?_, by show used st'.u o.1 = true; rw [h0]; exact hu0⟩
      have e := (hc.fix o v hv).1
      rw [hρ]
      unfold vr
      cases hg : rget f o with
      | none => exact e
      | some x =>
        have := List.all_eq_true.1 hP _ (rget_mem hg)
        simp only [h0, Nat.beq_refl, Bool.not_true, Bool.false_or] at this
        split at this
        · rename_i o1
          rw [idEq_iff] at this
          subst this
          exact e
        · cases this
  · rcases look_mem st'.fr t with e | hm
    · simp only [St.fs] at ho
      rw [e] at ho
      simp [AV.ids] at ho
    · exact usedFr_ok hu.1 t _ hm o ho
  · exact usedH_ok hu.2 o x (hget_mem ho)
theorem Leq.ok (hM : m = true → (∀ b, ¬ M b) ∧ ∀ o, w0.fx o = none) (hF : ∀ o v, w0.fx o = some v → o.1 = 0) (h : Leq m st st') (hc : Conc N B M w0 ρ st.fs a w) : ∃ ρ', Conc N B M w0 ρ' st'.fs a w :=
  let ⟨ρ', h, _⟩ := h.ok' hM hF hc
  ⟨ρ', h⟩
theorem closeAll_ok : ∀ (l : List Id) (st : St) (K : St → Prop) (ρ : Rho), closeAll l st K → Conc N B M w0 ρ st.fs a w → (∀ o ∈ l, True) → ∃ st1 ρ1, K st1 ∧ Conc N B M w0 ρ1 st1.fs a w ∧ st1.fr = st.fr
  | [], st, K, ρ, h, hc, _ => ⟨st, ρ, h, hc, rfl⟩
  | o :: l, st, K, ρ, h, hc, _ => by
    obtain ⟨H', us, R, h1, h2⟩ := close_spec h
    rw [hpushK_eq] at h1
    obtain ⟨⟨ρ1, hc1⟩, _⟩ := h2 hc fun _ _ => rfl
    have hfs : (⟨st.fs.L, updH st.fs.H us, st.fs.U⟩ : F_) = (⟨st.fr, hpush us st.h, st.u⟩ : St).fs := F_.ext' (fun _ => rfl) (fun o => (hget_push us st.h o).symm) fun _ => Iff.rfl
    rw [hfs] at hc1
    obtain ⟨st1, ρ2, g1, g2, g3⟩ := closeAll_ok l _ K ρ1 h1 hc1 fun _ _ => trivial
    exact ⟨st1, ρ2, g1, g2, g3⟩
theorem LeqG.ok (hM : m = true → (∀ b, ¬ M b) ∧ ∀ o, w0.fx o = none) (hF : ∀ o v, w0.fx o = some v → o.1 = 0) (h : LeqG m st st') (hc : Conc N B M w0 ρ st.fs a w) : ∃ ρ', Conc N B M w0 ρ' st'.fs a w := by
  obtain ⟨st1, ρ1, g1, g2, _⟩ := closeAll_ok _ st _ ρ h hc fun _ _ => trivial
  exact g1.ok hM hF g2
theorem litc_fs {st : St} {c : Operand} {b : Bool} (h : evL (look st.fr) c = tB b) : (litc st c b).fs = st.fs := by
  unfold litc
  split
  · exact lit_fs h
  · rfl
theorem W_ok (hΓ : Γ.chk P = true) (hmix : P.follows .mixedOrders = true) (hM : m = true → (∀ b, ¬ M b) ∧ ∀ o, w0.fx o = none) (hF : ∀ o v, w0.fx o = some v → o.1 = 0) :
    ∀ (c : Code) (K : Out → St → Prop) (st : St) (ρ : Rho) (a : Act) (w : World) (Q : Exit → Act → World → Prop), W m P Γ N c K st → Conc N B M w0 ρ st.fs a w →
      (∀ e st' ρ' a' w', K e st' → Conc N B M w0 ρ' st'.fs a' w' → Q e.at a' w') → c.wp P Q a w := by
  intro c
  induction c with
  | skip => intro K st ρ a w Q h hc hQ; exact wp_skip (hQ .normal _ _ _ _ h hc)
  | label l => intro K st ρ a w Q h hc hQ; exact wp_label (hQ .normal _ _ _ _ h hc)
  | exit id => intro K st ρ a w Q h hc hQ; exact wp_exit (hQ (.exit id) _ _ _ _ h hc)
  | ret => intro K st ρ a w Q h hc hQ; exact wp_ret (hQ .ret _ _ _ _ h hc)
  | goto l => intro K st ρ a w Q h; exact h.elim
  | refuse y => intro K st ρ a w Q h; exact h.elim
  | scope b _ => intro K st ρ a w Q h; exact h.elim
  | rangeFunc f ps x y _ _ => intro K st ρ a w Q h; exact h.elim
  | region id ops draw =>
    intro K st ρ a w Q h hc hQ
    cases draw with
    | false =>
      obtain ⟨es, st', h1, h2, h3, h4⟩ := wOps_ok hΓ ops.toList st [] _ h
      refine wp_region_list ?_
      have := chain_seq (P := P) (N := N) (ops := ops.toList) (B := B) (M := M) (w0 := w0) (Q := Q) ops.toList es st.fs ρ a w h2 hc fun ρ' a' w' hc' => hQ .normal st' ρ' a' w' h4 (by rw [h3]; exact hc')
      simpa using this
    | true =>
      have hdown : ∀ i o, ops.toList[i]? = some o → (Array.replicate ops.size false).getD i true = true → ∀ j ∈ afters o, (Array.replicate ops.size false).getD j true = true := fun i o ho hl => by
        have hi : i < ops.size := by
          rcases Nat.lt_or_ge i ops.size with h' | h'
          · exact h'
          · rw [List.getElem?_eq_none (by simpa using h')] at ho; cases ho
        simp [Array.getD_eq_getD_getElem?, hi] at hl
      have hc' : ∀ es : List (Bool × Eff), Conc N B M w0 ρ (sel st.fs ops.toList es (fun i => (Array.replicate ops.size false).getD i true) 0) a { w with drawn := w.drawn + 1 } := by
        intro es
        rw [sel_none _ _ _ _ _ fun i _ hi => by
          have : i < ops.size := by simpa using hi
          simp [Array.getD_eq_getD_getElem?, this]]
        exact hc.step (fun _ => False) [] (Turn.drew _ w) hc.size hc.defers (fun _ _ => rfl) (fun _ _ _ _ => rfl) rfl (fun _ _ => rfl) (fun _ h => h) (fun _ _ h => h) (fun _ _ _ _ _ _ h => h) (fun _ _ _ h => h)
          (fun o x b h => by cases h) (fun o o' x x' b h => by cases h) (fun _ o x h => by cases h) (fun _ t => .inl ⟨rfl, rfl⟩)
      refine wp_region_any hmix ?_
      rcases h with h | ⟨xi, xj, h⟩
      · obtain ⟨es, st', h1, h2, h3, h4, h5⟩ := wOps_ok hΓ ops.toList st [] _ h
        simp only [List.append_nil, List.reverse_reverse] at h4
        have := chain_any (P := P) (N := N) (ops := ops.toList) (B := B) (M := M) (w0 := w0) (Q := Q) st.fs es h1 h2 h4 (fun ρ' a' w' hc' => hQ .normal st' ρ' a' w' h5 (by rw [h3]; exact hc'))
          ops.size (Array.replicate ops.size false) ρ a _ (by simp) (by simp) hdown (hc' es)
        simpa using this
      · obtain ⟨es, st', h1, h2, hlt, h4, ⟨oi, oj, bj, ei, ej, g1, g2, g3, g4, g5⟩, h3, h5⟩ := wRegX_ok hΓ h
        have := chain_anyX (P := P) (N := N) (ops := ops.toList) (B := B) (M := M) (w0 := w0) (Q := Q) st.fs es h1 h2 hlt h4 g1 g2 g3 g4 g5 (fun ρ' a' w' hc' => hQ .normal st' ρ' a' w' h5 (by rw [h3]; exact hc'))
          ops.size (Array.replicate ops.size false) ρ a _ (by simp) (by simp) hdown (hc' es)
        simpa using this
  | seq x y ihx ihy =>
    intro K st ρ a w Q h hc hQ
    rcases h with h | ⟨ι, S, h, h2⟩
    · refine wp_seq (ihx _ st ρ a w _ h hc fun e st' ρ' a' w' hK hc' => ?_)
      cases e with
      | normal => exact ihy K st' ρ' a' w' Q hK hc' hQ
      | exit id => exact hQ (.exit id) _ _ _ _ hK hc'
      | ret => exact hQ .ret _ _ _ _ hK hc'
    · refine wp_seq (ihx _ st ρ a w _ h hc fun e st' ρ' a' w' hK hc' => ?_)
      cases e with
      | normal => obtain ⟨i, hi⟩ := hK; obtain ⟨ρ'', hc''⟩ := hi.ok hM hF hc'; exact ihy K (S i) ρ'' a' w' Q (h2 i) hc'' hQ
      | exit id => exact hQ (.exit id) _ _ _ _ hK hc'
      | ret => exact hQ .ret _ _ _ _ hK hc'
  | cond c x y ihx ihy =>
    intro K st ρ a w Q h hc hQ
    rw [W] at h
    split at h
    · rename_i b hb
      have hv := (hc.eval c).1
      rw [show evL st.fs.L c = tB b from hb] at hv
      refine wp_cond (inv_bool hv) ?_
      cases b with
      | true => exact ihx K _ ρ a w Q h (by rw [litc_fs hb]; exact hc) hQ
      | false => exact ihy K _ ρ a w Q h (by rw [litc_fs hb]; exact hc) hQ
    · exact h.elim
  | block id c ih =>
    intro K st ρ a w Q h hc hQ
    refine wp_block (ih _ st ρ a w _ h hc fun e st' ρ' a' w' hK hc' => ?_)
    cases e with
    | normal => exact hQ .normal _ _ _ _ hK hc'
    | ret => exact hQ .ret _ _ _ _ hK hc'
    | exit id' =>
      show if id' = id then _ else _
      by_cases he : id' = id
      · rw [if_pos he]
        subst he
        simp only [Nat.beq_refl] at hK
        exact hQ .normal _ _ _ _ hK hc'
      · rw [if_neg he]
        have : Nat.beq id' id = false := by cases hb : Nat.beq id' id with | false => rfl | true => exact absurd (Nat.eq_of_beq_eq_true hb) he
        simp only [this] at hK
        exact hQ (.exit id') _ _ _ _ hK hc'
  | loop c ih =>
    intro K st ρ a w Q h hc hQ
    obtain ⟨ι, S, μ, i0, h0, hS⟩ := h
    obtain ⟨ρ0, hc0⟩ := h0.ok hM hF hc
    have key : ∀ n i (ρ : Rho) (a : Act) (w : World), μ i ≤ n → Conc N B M w0 ρ (S i).fs a w → ∀ (b : Frame) (k : List Item) (cs : List Frame),
        ∃ e a' w', Q e a' w' ∧ Arrives P (lone (b.at a (.code c :: .inLoop c :: k)) cs w) b k cs e a' w' := by
      intro n
      induction n with
      | zero =>
        intro i ρ a w hi hc b k cs
        obtain ⟨e, a1, w1, hq, harr⟩ := ih _ (S i) ρ a w (fun e a' w' => match e with | .normal => False | e => Q e a' w') (hS i) hc (fun e st' ρ' a' w' hK hc' => by
          cases e with
          | normal => obtain ⟨j, _, hj⟩ := hK; exact absurd hj (by omega)
          | exit id => exact hQ (.exit id) _ _ _ _ hK hc'
          | ret => exact hQ .ret _ _ _ _ hK hc') b (.inLoop c :: k) cs
        cases e with
        | normal => exact hq.elim
        | exit id => exact ⟨_, a1, w1, hq, .pass (x := .inLoop c) rfl (fun _ _ => .inl (by simp)) harr⟩
        | goto l => exact ⟨_, a1, w1, hq, .pass (x := .inLoop c) rfl (fun _ _ => .inl (by simp)) harr⟩
        | ret => exact ⟨_, a1, w1, hq, .pass (x := .inLoop c) rfl (fun _ _ => .inl (by simp)) harr⟩
        | panic ch => exact ⟨_, a1, w1, hq, .pass (x := .inLoop c) rfl (fun _ _ => .inl (by simp)) harr⟩
        | outgrown => exact ⟨_, a1, w1, hq, .pass (x := .inLoop c) rfl (fun _ _ => .inl (by simp)) harr⟩
      | succ n ihn =>
        intro i ρ a w hi hc b k cs
        obtain ⟨e, a1, w1, hq, harr⟩ := ih _ (S i) ρ a w (fun e a' w' => match e with | .normal => ∃ j ρ', μ j ≤ n ∧ Conc N B M w0 ρ' (S j).fs a' w' | e => Q e a' w') (hS i) hc (fun e st' ρ' a' w' hK hc' => by
          cases e with
          | normal => obtain ⟨j, hj1, hj2⟩ := hK; obtain ⟨ρ'', hc''⟩ := hj1.ok hM hF hc'; exact ⟨j, ρ'', by omega, hc''⟩
          | exit id => exact hQ (.exit id) _ _ _ _ hK hc'
          | ret => exact hQ .ret _ _ _ _ hK hc') b (.inLoop c :: k) cs
        cases e with
        | normal =>
          obtain ⟨j, ρ', hj, hc'⟩ := hq
          obtain ⟨e2, a2, w2, hq2, harr2⟩ := ihn j ρ' a1 w1 hj hc' b k cs
          exact ⟨e2, a2, w2, hq2, .of_steps (Steps.trans harr (.one step_inLoop)) harr2⟩
        | exit id => exact ⟨_, a1, w1, hq, .pass (x := .inLoop c) rfl (fun _ _ => .inl (by simp)) harr⟩
        | goto l => exact ⟨_, a1, w1, hq, .pass (x := .inLoop c) rfl (fun _ _ => .inl (by simp)) harr⟩
        | ret => exact ⟨_, a1, w1, hq, .pass (x := .inLoop c) rfl (fun _ _ => .inl (by simp)) harr⟩
        | panic ch => exact ⟨_, a1, w1, hq, .pass (x := .inLoop c) rfl (fun _ _ => .inl (by simp)) harr⟩
        | outgrown => exact ⟨_, a1, w1, hq, .pass (x := .inLoop c) rfl (fun _ _ => .inl (by simp)) harr⟩
    intro b k cs
    obtain ⟨e, a', w', hq, harr⟩ := key (μ i0) i0 ρ0 a w (Nat.le_refl _) hc0 b k cs
    exact ⟨e, a', w', hq, .of_steps (.one step_loop) harr⟩
end
end Go.Sim
