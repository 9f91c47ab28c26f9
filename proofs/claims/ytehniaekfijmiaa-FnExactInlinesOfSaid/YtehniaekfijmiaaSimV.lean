/- The evaluator's steps as rules, one for each part of a code; the evaluator itself under a name that cannot be unfolded, so that the kernel never looks into a code that is still to come. -/
import Derived.Test.YtehniaekfijmiaaSimM
namespace Go.Sim
open Go.RowKit
theorem Wo_ex : ∃ F : Bool → Program → Env → Nat → Code → (Out → St → Prop) → St → Prop, F = W := ⟨W, rfl⟩
noncomputable def Wo : Bool → Program → Env → Nat → Code → (Out → St → Prop) → St → Prop := Classical.choose Wo_ex
theorem Wo_eq : Wo = W := Classical.choose_spec Wo_ex
theorem Lo_ex : ∃ F : Bool → St → St → Prop, F = LeqG := ⟨LeqG, rfl⟩
noncomputable def Lo : Bool → St → St → Prop := Classical.choose Lo_ex
theorem Lo_eq : Lo = LeqG := Classical.choose_spec Lo_ex
attribute [irreducible] Wo Lo
section
variable {P : Program} {Γ : Env} {N : Nat} {m : Bool} {K : Out → St → Prop} {st st' : St} {c x y : Code}
theorem lo_rule (h : LeqG m st st') : Lo m st st' := by rw [Lo_eq]; exact h
theorem loop_intro (h : ∃ (ι : Type) (S : ι → St) (μ : ι → Nat) (i0 : ι), Lo m st (S i0) ∧ ∀ i, Wo m P Γ N c (fun e st' => (match e with
      | .normal => ∃ j, Lo m st' (S j) ∧ μ j < μ i
      | e => K e st')) (S i)) : Wo m P Γ N (.loop c) K st := by
  rw [Wo_eq, Lo_eq] at *
  exact h
theorem block_intro {id : Nat} (h : Wo m P Γ N c (fun e st' => (match e with
      | .exit id' => (match Nat.beq id' id with
          | true => K .normal st'
          | false => K (.exit id') st')
      | e => K e st')) st) : Wo m P Γ N (.block id c) K st := by
  rw [Wo_eq] at *
  exact h
theorem seq_rule (h : Wo m P Γ N x (fun e st' => (match e with
      | .normal => Wo m P Γ N y K st'
      | e => K e st')) st) : Wo m P Γ N (.seq x y) K st := by
  rw [Wo_eq] at *
  exact Or.inl h
theorem join_rule (ι : Type) (S : ι → St) (h : Wo m P Γ N x (fun e st' => (match e with
        | .normal => ∃ i, Lo m st' (S i)
        | e => K e st')) st) (h2 : ∀ i, Wo m P Γ N y K (S i)) : Wo m P Γ N (.seq x y) K st := by
  rw [Wo_eq, Lo_eq] at *
  exact Or.inr ⟨ι, S, h, h2⟩
theorem cond_rule {d : Operand} (h : match evL (look st.fr) d with
      | .r (.c (.t (.bool b))) => ifB b (Wo m P Γ N x K (litc st d true)) (Wo m P Γ N y K (litc st d false))
      | _ => False) : Wo m P Γ N (.cond d x y) K st := by
  rw [Wo_eq] at *
  exact h
theorem reg_rule {id : Nat} {ops : Array Oper} {draw : Bool} (h : wReg P Γ N ops.toList draw st (K .normal)) : Wo m P Γ N (.region id ops draw) K st := by
  rw [Wo_eq]
  exact h
theorem skip_rule (h : K .normal st) : Wo m P Γ N .skip K st := by
  rw [Wo_eq]
  exact h
theorem exit_rule {id : Nat} (h : K (.exit id) st) : Wo m P Γ N (.exit id) K st := by
  rw [Wo_eq]
  exact h
theorem ret_rule (h : K .ret st) : Wo m P Γ N .ret K st := by
  rw [Wo_eq]
  exact h
theorem W1 (h : Wo m P Γ N x (fun e st' => (match e with
      | .normal => Wo m P Γ N y K st'
      | e => K e st')) st) : Wo m P Γ N (.seq x y) K st := seq_rule h
theorem W2 {id : Nat} {ops : Array Oper} {draw : Bool} (h : wReg P Γ N ops.toList draw st (K .normal)) : Wo m P Γ N (.region id ops draw) K st := reg_rule h
theorem W3 {d : Operand} (h : match evL (look st.fr) d with
      | .r (.c (.t (.bool b))) => ifB b (Wo m P Γ N x K (litc st d true)) (Wo m P Γ N y K (litc st d false))
      | _ => False) : Wo m P Γ N (.cond d x y) K st := cond_rule h
theorem W4 {id : Nat} (h : Wo m P Γ N c (fun e st' => (match e with
      | .exit id' => (match Nat.beq id' id with
          | true => K .normal st'
          | false => K (.exit id') st')
      | e => K e st')) st) : Wo m P Γ N (.block id c) K st := block_intro h
theorem W5 (h : ∃ (ι : Type) (S : ι → St) (μ : ι → Nat) (i0 : ι), Lo m st (S i0) ∧ ∀ i, Wo m P Γ N c (fun e st' => (match e with
      | .normal => ∃ j, Lo m st' (S j) ∧ μ j < μ i
      | e => K e st')) (S i)) : Wo m P Γ N (.loop c) K st := loop_intro h
theorem W6 (h : LeqG m st st') : Lo m st st' := lo_rule h
theorem W7 (h : K .normal st) : Wo m P Γ N .skip K st := skip_rule h
theorem W8 {id : Nat} (h : K (.exit id) st) : Wo m P Γ N (.exit id) K st := exit_rule h
theorem W9 (h : K .ret st) : Wo m P Γ N .ret K st := ret_rule h
theorem Wm {α : Type} {p : α → Prop} {a : α} {l : List α} (h : p a) (t : ∀ x ∈ l, p x) : ∀ x ∈ a :: l, p x := List.forall_mem_cons.2 ⟨h, t⟩
end
theorem spec_of_Wo {P : Program} {Γ : Env} {f : FuncId} {fn : Func} {c : Code} {ts : List TV} {r : Res} (hΓ : Γ.chk P = true) (hmix : P.follows .mixedOrders = true) (hf : P.funcs[f]? = some fn) (hb : fn.body = some c) (hn : (fn.name == "runtime.NumGoroutine") = false)
    (hN : Nat.ble ts.length fn.ntmps = true) (h : Wo true P Γ fn.ntmps c (doneK Γ fn.results.toList r) (st0 ts)) : Spec P f ts r := by
  rw [Wo_eq] at h
  exact spec_of_W hΓ hmix hf hb hn hN h
theorem specG_of_Wo {P : Program} {Γ : Env} {f : FuncId} {fn : Func} {c : Code} {xs : List AV} {h0 : List (Id × AO)} {r : AV} {h1 : List (Id × AO)} (hΓ : Γ.chk P = true) (hmix : P.follows .mixedOrders = true) (hf : P.funcs[f]? = some fn) (hb : fn.body = some c) (hn : (fn.name == "runtime.NumGoroutine") = false)
    (hN : Nat.ble xs.length fn.ntmps = true) (hnames : namesG xs h0 .unk [] = true) (h : Wo false P Γ fn.ntmps c (doneG Γ fn.results.toList r h1) (stG xs h0)) : SpecG P f xs h0 r h1 := by
  rw [Wo_eq] at h
  exact specG_of_W hΓ hmix hf hb hn hN hnames h
end Go.Sim
