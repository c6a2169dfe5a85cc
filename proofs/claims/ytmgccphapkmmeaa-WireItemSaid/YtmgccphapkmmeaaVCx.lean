/- A symbolic executor for loaded Go code: contexts, functions by their facts. -/
import Derived.Test.YtmgccphapkmmeaaVTy
import Derived.KernelRfl
namespace Go.Proofs.Ytmgccphapkmmeaa
open Go.RowKit

def mkCtx (l : List (FuncId × Spec)) : Ctx := ⟨fun f => lk l f, fun _ => none⟩
/-- A function with a contract, and what is known of it. -/
structure Known (P : Program) (τ : Tys) (f : FuncId) (sp : Spec) : Prop where
  enters : Enters P f
  valid : Valid P τ f sp
theorem ctx_nil {P : Program} {τ : Tys} : CtxOk P τ (mkCtx []) := ⟨fun f sp h => by simp [mkCtx, lk] at h, fun f sp h => by simp [mkCtx, lk] at h, fun f T h => by simp [mkCtx] at h, fun f T h => by simp [mkCtx] at h⟩
theorem ctx_cons {P : Program} {τ : Tys} {f : FuncId} {sp : Spec} {l : List (FuncId × Spec)} (h : Known P τ f sp) (hl : CtxOk P τ (mkCtx l)) : CtxOk P τ (mkCtx ((f, sp) :: l)) := by
  refine ⟨?_, ?_, fun f T h => by simp [mkCtx] at h, fun f T h => by simp [mkCtx] at h⟩
  · intro g sp' hg
    simp only [mkCtx, lk] at hg
    split at hg
    · rename_i hk
      obtain rfl := Nat.eq_of_beq_eq_true hk
      exact h.enters
    · exact hl.enters g sp' hg
  · intro g sp' hg
    simp only [mkCtx, lk] at hg
    split at hg
    · rename_i hk
      obtain rfl := Nat.eq_of_beq_eq_true hk
      simp at hg
      subst hg
      exact h.valid
    · exact hl.valid g sp' hg
/-- With what another call does to the state. -/
def addTr (f : FuncId) (T : CallT) (C : Ctx) : Ctx := ⟨C.spec, fun g => match Nat.beq f g with
  | true => some T
  | false => C.tr g⟩
structure TrKnown (P : Program) (τ : Tys) (f : FuncId) (T : CallT) : Prop where
  enters : Enters P f
  ok : TrOk P τ f T
theorem ctx_tr {P : Program} {τ : Tys} {f : FuncId} {T : CallT} {C : Ctx} (h : TrKnown P τ f T) (hC : CtxOk P τ C) : CtxOk P τ (addTr f T C) := by
  refine ⟨hC.enters, hC.valid, ?_, ?_⟩
  · intro g T' hg
    simp only [addTr] at hg
    split at hg
    · rename_i hk
      obtain rfl := Nat.eq_of_beq_eq_true hk
      exact h.enters
    · exact hC.trEnters g T' hg
  · intro g T' hg
    simp only [addTr] at hg
    split at hg
    · rename_i hk
      obtain rfl := Nat.eq_of_beq_eq_true hk
      simp at hg
      subst hg
      exact h.ok
    · exact hC.trOk g T' hg
def fbody (fn : Func) : Code := match fn.body with
  | some c => c
  | none => .skip
def isSome' {α : Type} : Option α → Bool
  | some _ => true
  | none => false
/-- What is asked of a function, by computation. -/
def fnOk (D : Draws) (fn : Func) : Bool := isSome' fn.body && !(fn.name == "runtime.NumGoroutine") && codeOk D fn.ntmps (fbody fn)
theorem fnOk_enters {P : Program} {f : FuncId} {fn : Func} {D : Draws} (hf : P.funcs[f]? = some fn) (h : fnOk D fn = true) : Enters P f := by
  simp only [fnOk, Bool.and_eq_true, Bool.not_eq_true'] at h
  intro args w
  have hb : fn.body.isNone = false := by
    cases hb : fn.body with
    | none => rw [hb] at h; simp [isSome'] at h
    | some c => rfl
  have hn : ¬ fn.name = "runtime.NumGoroutine" := by simpa using h.1.2
  have hb' : ¬ fn.body = none := fun e => by rw [e] at hb; simp at hb
  simp [callFunc, hf, hb, hb', hn]
theorem known {P : Program} {τ : Tys} (hm : P.follows .mixedOrders = true) (hτ : TysOk P τ) {f : FuncId} {fn : Func} (hf : P.funcs[f]? = some fn) (D : Draws) (hok : fnOk D fn = true) (sp : Spec)
    (h : ∀ args, argFits args → (sp args).vc fun v rows => allB argOkF args = true ∧ ∃ C, CtxOk P τ C ∧ ∃ L, wpC τ C D L (fbody fn) (startSt args) (retK τ fn.results.toList v rows)) : Known P τ f sp := by
  refine ⟨fnOk_enters hf hok, ?_⟩
  simp only [fnOk, Bool.and_eq_true] at hok
  have hb : fn.body = some (fbody fn) := by
    cases hb : fn.body with
    | none => have := hok.1.1; rw [hb] at this; simp [isSome'] at this
    | some c => simp [fbody, hb]
  exact valid_of_vc hm hτ hf hb D hok.2 sp h
/-! ### How a loop's state is told -/
def withS (l : List (Nat × SV)) : St → St
  | ⟨fr, stk, bx, rw, dep⟩ => ⟨l ++ fr, stk, bx, rw, dep⟩
def withR (l : List (Nat × Ent)) : St → St
  | ⟨fr, stk, bx, rw, dep⟩ => ⟨fr, stk, bx, l ++ rw, dep⟩
def withB (l : List (Nat × (TypeId × List SV))) : St → St
  | ⟨fr, stk, bx, rw, dep⟩ => ⟨fr, stk, l ++ bx, rw, dep⟩
end Go.Proofs.Ytmgccphapkmmeaa
