/- A symbolic executor for loaded Go code: contracts by their arguments' shapes. -/
import Derived.Test.YtmgccphapkmmeaaVCx
namespace Go.Proofs.Ytmgccphapkmmeaa
open Go.RowKit

/-- How an argument is read, and told. -/
structure Dec (α : Type) where
  d : SV → Option α
  e : α → SV
  ok : ∀ x a, d x = some a → x = e a
def dInt : Dec Int := ⟨fun x => match x with
  | .int .i64 n => some n
  | _ => none, fun n => .int .i64 n, fun x a h => by
    split at h <;> simp at h; subst h; rfl⟩
def dByte : Dec Int := ⟨fun x => match x with
  | .int .u8 n => some n
  | _ => none, fun n => .int .u8 n, fun x a h => by
    split at h <;> simp at h; subst h; rfl⟩
def dBool : Dec Bool := ⟨fun x => match x with
  | .bool b => some b
  | _ => none, fun b => .bool b, fun x a h => by
    split at h <;> simp at h; subst h; rfl⟩
def dStr : Dec ByteArray := ⟨fun x => match x with
  | .str b => some b
  | _ => none, fun b => .str b, fun x a h => by
    split at h <;> simp at h; subst h; rfl⟩
def dInts : Dec (List Int) := ⟨fun x => match x with
  | .row .any (.ints l) => some l
  | _ => none, fun l => .row .any (.ints l), fun x a h => by
    split at h <;> simp at h; subst h; rfl⟩
def dBytes : Dec (List Int) := ⟨fun x => match x with
  | .row .any (.bytes l) => some l
  | _ => none, fun l => .row .any (.bytes l), fun x a h => by
    split at h <;> simp at h; subst h; rfl⟩
def dStrs : Dec (List ByteArray) := ⟨fun x => match x with
  | .row .any (.strs l) => some l
  | _ => none, fun l => .row .any (.strs l), fun x a h => by
    split at h <;> simp at h; subst h; rfl⟩
def dPeers : Dec (List GPeer) := ⟨fun x => match x with
  | .row .any (.peers l) => some l
  | _ => none, fun l => .row .any (.peers l), fun x a h => by
    split at h <;> simp at h; subst h; rfl⟩
def dItems : Dec (List GItem) := ⟨fun x => match x with
  | .row .any (.items l) => some l
  | _ => none, fun l => .row .any (.items l), fun x a h => by
    split at h <;> simp at h; subst h; rfl⟩
def dTolds : Dec (List GTold) := ⟨fun x => match x with
  | .row .any (.tolds l) => some l
  | _ => none, fun l => .row .any (.tolds l), fun x a h => by
    split at h <;> simp at h; subst h; rfl⟩
def dCuts : Dec (List GCut) := ⟨fun x => match x with
  | .row .any (.cuts l) => some l
  | _ => none, fun l => .row .any (.cuts l), fun x a h => by
    split at h <;> simp at h; subst h; rfl⟩
def dMsgs : Dec (List GMsg) := ⟨fun x => match x with
  | .row .any (.msgs l) => some l
  | _ => none, fun l => .row .any (.msgs l), fun x a h => by
    split at h <;> simp at h; subst h; rfl⟩
def dNodes : Dec (List GNode) := ⟨fun x => match x with
  | .row .any (.nodes l) => some l
  | _ => none, fun l => .row .any (.nodes l), fun x a h => by
    split at h <;> simp at h; subst h; rfl⟩
def dActs : Dec (List GAct) := ⟨fun x => match x with
  | .row .any (.acts l) => some l
  | _ => none, fun l => .row .any (.acts l), fun x a h => by
    split at h <;> simp at h; subst h; rfl⟩
def dVer : Dec GVer := ⟨fun x => match x with
  | .agg [.int .i64 a, .int .i64 b] => some ⟨a, b⟩
  | _ => none, fun v => .agg [.int .i64 v.count, .int .i64 v.writer], fun x a h => by
    split at h <;> simp at h; subst h; rfl⟩
def dPeer : Dec GPeer := ⟨fun x => match x with
  | .agg [.int .i64 a, .int .i64 b] => some ⟨a, b⟩
  | _ => none, fun v => .agg [.int .i64 v.id, .int .i64 v.missed], fun x a h => by
    split at h <;> simp at h; subst h; rfl⟩
def dCut : Dec GCut := ⟨fun x => match x with
  | .agg [.int .i64 a, .int .i64 b] => some ⟨a, b⟩
  | _ => none, fun v => .agg [.int .i64 v.a, .int .i64 v.b], fun x a h => by
    split at h <;> simp at h; subst h; rfl⟩
def dTold : Dec GTold := ⟨fun x => match x with
  | .agg [.int .i64 a, .bool c, .int .i64 b] => some ⟨a, c, b⟩
  | _ => none, fun v => .agg [.int .i64 v.key, .bool v.has, .int .i64 v.value], fun x a h => by
    split at h <;> simp at h; subst h; rfl⟩
def dItem : Dec GItem := ⟨fun x => match x with
  | .agg [.int .i64 k, .int .i64 c, .int .i64 w, .int .i64 v, .bool g] => some ⟨k, ⟨c, w⟩, v, g⟩
  | _ => none, fun i => .agg [.int .i64 i.key, .int .i64 i.ver.count, .int .i64 i.ver.writer, .int .i64 i.value, .bool i.gone], fun x a h => by
    split at h <;> simp at h; subst h; rfl⟩
def dMsg : Dec GMsg := ⟨fun x => match x with
  | .agg [.int .i64 kind, .int .i64 src, .int .i64 dst, .row .any (.ints ids), .int .i64 key, .int .i64 ik, .int .i64 ic, .int .i64 iw, .int .i64 iv, .bool ig, .bool has] => some ⟨kind, src, dst, ids, key, ⟨ik, ⟨ic, iw⟩, iv, ig⟩, has⟩
  | _ => none, fun m => .agg [.int .i64 m.kind, .int .i64 m.src, .int .i64 m.dst, .row .any (.ints m.ids), .int .i64 m.key, .int .i64 m.item.key, .int .i64 m.item.ver.count, .int .i64 m.item.ver.writer, .int .i64 m.item.value, .bool m.item.gone, .bool m.has], fun x a h => by
    split at h <;> simp at h; subst h; rfl⟩
def dView : Dec GView := ⟨fun x => match x with
  | .agg [.int .i64 id, .row .any (.peers p), .row .any (.ints q)] => some ⟨id, p, q⟩
  | _ => none, fun v => .agg [.int .i64 v.id, .row .any (.peers v.peers), .row .any (.ints v.passive)], fun x a h => by
    split at h <;> simp at h; subst h; rfl⟩
def dNode : Dec GNode := ⟨fun x => match x with
  | .agg [.bool up, .int .i64 id, .row .any (.peers p), .row .any (.ints q), .row .any (.items i), .row .any (.tolds l)] => some ⟨up, ⟨id, p, q⟩, i, l⟩
  | _ => none, fun n => .agg [.bool n.up, .int .i64 n.view.id, .row .any (.peers n.view.peers), .row .any (.ints n.view.passive), .row .any (.items n.items), .row .any (.tolds n.log)], fun x a h => by
    split at h <;> simp at h; subst h; rfl⟩
def dWorld : Dec GWorld := ⟨fun x => match x with
  | .agg [.row .any (.nodes n), .row .any (.cuts c), .row .any (.msgs p)] => some ⟨n, c, p⟩
  | _ => none, fun v => .agg [.row .any (.nodes v.nodes), .row .any (.cuts v.cuts), .row .any (.msgs v.packets)], fun x a h => by
    split at h <;> simp at h; subst h; rfl⟩
def dAct : Dec GAct := ⟨fun x => match x with
  | .agg [.int .i64 a, .int .i64 b, .int .i64 c, .int .i64 d, .row .any (.ints ids), .int .i64 k, .int .i64 v] => some ⟨a, b, c, d, ids, k, v⟩
  | _ => none, fun m => .agg [.int .i64 m.kind, .int .i64 m.node, .int .i64 m.other, .int .i64 m.pick, .row .any (.ints m.ids), .int .i64 m.key, .int .i64 m.value], fun x a h => by
    split at h <;> simp at h; subst h; rfl⟩
/-- A function value without anything of its own. -/
def dFn (f : FuncId) : Dec Unit := ⟨fun x => match x with
  | .clo g [] [] => match Nat.beq g f with
    | true => some ()
    | false => none
  | _ => none, fun _ => .clo f [] [], fun x a h => by
    split at h
    · split at h
      · rename_i hg; rw [Nat.eq_of_beq_eq_true hg]
      · simp at h
    · simp at h⟩

def S0 (f : Out) : Spec := fun args => match args with
  | [] => f
  | _ => .bad
def S1 {α : Type} (A : Dec α) (f : α → Out) : Spec := fun args => match args with
  | [x] => match A.d x with
    | some a => f a
    | none => .bad
  | _ => .bad
def S2 {α β : Type} (A : Dec α) (B : Dec β) (f : α → β → Out) : Spec := fun args => match args with
  | [x, y] => match A.d x, B.d y with
    | some a, some b => f a b
    | _, _ => .bad
  | _ => .bad
def S3 {α β γ : Type} (A : Dec α) (B : Dec β) (C : Dec γ) (f : α → β → γ → Out) : Spec := fun args => match args with
  | [x, y, z] => match A.d x, B.d y, C.d z with
    | some a, some b, some c => f a b c
    | _, _, _ => .bad
  | _ => .bad
def S4 {α β γ δ : Type} (A : Dec α) (B : Dec β) (C : Dec γ) (D : Dec δ) (f : α → β → γ → δ → Out) : Spec := fun args => match args with
  | [x, y, z, u] => match A.d x, B.d y, C.d z, D.d u with
    | some a, some b, some c, some d => f a b c d
    | _, _, _, _ => .bad
  | _ => .bad
section
variable {P : Program} {τ : Tys} {α β γ δ ε ζ : Type}
/-- What a function's body has to meet. -/
noncomputable def Meets (P : Program) (τ : Tys) (D : Draws) (fn : Func) (args : List SV) (r : Out) : Prop :=
  argFits args → r.vc fun v rows => allB argOkF args = true ∧ ∃ C, CtxOk P τ C ∧ ∃ L, wpC τ C D L (fbody fn) (startSt args) (retK τ fn.results.toList v rows)
/-- The same, in a context told ahead. -/
noncomputable def MeetsC (τ : Tys) (C : Ctx) (D : Draws) (fn : Func) (args : List SV) (r : Out) : Prop :=
  argFits args → r.vc fun v rows => allB argOkF args = true ∧ ∃ L, wpC τ C D L (fbody fn) (startSt args) (retK τ fn.results.toList v rows)
theorem MeetsC.to {C : Ctx} (hC : CtxOk P τ C) {D : Draws} {fn : Func} {args : List SV} {r : Out} (h : MeetsC τ C D fn args r) : Meets P τ D fn args r := fun ha => by
  have := h ha
  cases r with
  | ok v rows => exact ⟨this.1, C, hC, this.2⟩
  | ob q v rows => exact fun hq => ⟨(this hq).1, C, hC, (this hq).2⟩
  | bad => trivial
def S5 {α β γ δ ε : Type} (A : Dec α) (B : Dec β) (C : Dec γ) (D : Dec δ) (E : Dec ε) (f : α → β → γ → δ → ε → Out) : Spec := fun args => match args with
  | [x, y, z, u, t] => match A.d x, B.d y, C.d z, D.d u, E.d t with
    | some a, some b, some c, some d, some e => f a b c d e
    | _, _, _, _, _ => .bad
  | _ => .bad
section
variable (hm : P.follows .mixedOrders = true) (hτ : TysOk P τ) {f : FuncId} {fn : Func} (hf : P.funcs[f]? = some fn) (D : Draws) (hok : fnOk D fn = true)
include hm hτ hf hok
theorem knownX0 (g : Out) (h : Meets P τ D fn [] g) : Known P τ f (S0 g) := by
  refine known hm hτ hf D hok _ fun args ha => ?_
  unfold S0
  split
  · exact h ha
  · trivial
theorem knownX1 (A : Dec α) (g : α → Out) (h : ∀ a, Meets P τ D fn [A.e a] (g a)) : Known P τ f (S1 A g) := by
  refine known hm hτ hf D hok _ fun args ha => ?_
  unfold S1
  split
  · split
    · rename_i x a hx; obtain rfl := A.ok _ _ hx; exact h a ha
    · trivial
  · trivial
theorem knownX2 (A : Dec α) (B : Dec β) (g : α → β → Out) (h : ∀ a b, Meets P τ D fn [A.e a, B.e b] (g a b)) : Known P τ f (S2 A B g) := by
  refine known hm hτ hf D hok _ fun args ha => ?_
  unfold S2
  split
  · split
    · rename_i x y a b hx hy; obtain rfl := A.ok _ _ hx; obtain rfl := B.ok _ _ hy; exact h a b ha
    · trivial
  · trivial
theorem knownX3 (A : Dec α) (B : Dec β) (G : Dec γ) (g : α → β → γ → Out) (h : ∀ a b c, Meets P τ D fn [A.e a, B.e b, G.e c] (g a b c)) : Known P τ f (S3 A B G g) := by
  refine known hm hτ hf D hok _ fun args ha => ?_
  unfold S3
  split
  · split
    · rename_i x y z a b c hx hy hz; obtain rfl := A.ok _ _ hx; obtain rfl := B.ok _ _ hy; obtain rfl := G.ok _ _ hz; exact h a b c ha
    · trivial
  · trivial
theorem knownX4 (A : Dec α) (B : Dec β) (G : Dec γ) (H : Dec δ) (g : α → β → γ → δ → Out) (h : ∀ a b c d, Meets P τ D fn [A.e a, B.e b, G.e c, H.e d] (g a b c d)) : Known P τ f (S4 A B G H g) := by
  refine known hm hτ hf D hok _ fun args ha => ?_
  unfold S4
  split
  · split
    · rename_i x y z u a b c d hx hy hz hu; obtain rfl := A.ok _ _ hx; obtain rfl := B.ok _ _ hy; obtain rfl := G.ok _ _ hz; obtain rfl := H.ok _ _ hu; exact h a b c d ha
    · trivial
  · trivial
theorem knownX5 (A : Dec α) (B : Dec β) (G : Dec γ) (H : Dec δ) (I : Dec ε) (g : α → β → γ → δ → ε → Out) (h : ∀ a b c d e, Meets P τ D fn [A.e a, B.e b, G.e c, H.e d, I.e e] (g a b c d e)) : Known P τ f (S5 A B G H I g) := by
  refine known hm hτ hf D hok _ fun args ha => ?_
  unfold S5
  split
  · split
    · rename_i x y z u t a b c d e hx hy hz hu ht; obtain rfl := A.ok _ _ hx; obtain rfl := B.ok _ _ hy; obtain rfl := G.ok _ _ hz; obtain rfl := H.ok _ _ hu; obtain rfl := I.ok _ _ ht; exact h a b c d e ha
    · trivial
  · trivial
end
section
variable (hm : P.follows .mixedOrders = true) (hτ : TysOk P τ) {C : Ctx} (hC : CtxOk P τ C) {f : FuncId} {fn : Func} (hf : P.funcs[f]? = some fn) (D : Draws) (hok : fnOk D fn = true)
include hm hτ hC hf hok
theorem known0 (g : Out) (h : MeetsC τ C D fn [] g) : Known P τ f (S0 g) := knownX0 hm hτ hf D hok g (h.to hC)
theorem known1 (A : Dec α) (g : α → Out) (h : ∀ a, MeetsC τ C D fn [A.e a] (g a)) : Known P τ f (S1 A g) := knownX1 hm hτ hf D hok A g fun a => (h a).to hC
theorem known2 (A : Dec α) (B : Dec β) (g : α → β → Out) (h : ∀ a b, MeetsC τ C D fn [A.e a, B.e b] (g a b)) : Known P τ f (S2 A B g) := knownX2 hm hτ hf D hok A B g fun a b => (h a b).to hC
theorem known3 (A : Dec α) (B : Dec β) (G : Dec γ) (g : α → β → γ → Out) (h : ∀ a b c, MeetsC τ C D fn [A.e a, B.e b, G.e c] (g a b c)) : Known P τ f (S3 A B G g) := knownX3 hm hτ hf D hok A B G g fun a b c => (h a b c).to hC
theorem known4 (A : Dec α) (B : Dec β) (G : Dec γ) (H : Dec δ) (g : α → β → γ → δ → Out) (h : ∀ a b c d, MeetsC τ C D fn [A.e a, B.e b, G.e c, H.e d] (g a b c d)) : Known P τ f (S4 A B G H g) := knownX4 hm hτ hf D hok A B G H g fun a b c d => (h a b c d).to hC
theorem known5 (A : Dec α) (B : Dec β) (G : Dec γ) (H : Dec δ) (I : Dec ε) (g : α → β → γ → δ → ε → Out) (h : ∀ a b c d e, MeetsC τ C D fn [A.e a, B.e b, G.e c, H.e d, I.e e] (g a b c d e)) : Known P τ f (S5 A B G H I g) := knownX5 hm hτ hf D hok A B G H I g fun a b c d e => (h a b c d e).to hC
end
end
/-- Evaluation halts here. -/
@[irreducible] def Stop (p : Prop) : Prop := p
theorem Stop.mk {p : Prop} (h : p) : Stop p := by unfold Stop; exact h
theorem Stop.out {p : Prop} (h : Stop p) : p := by unfold Stop at h; exact h
/-- What follows is told by a name: so that Lean's kernel doesn't look into it. -/
theorem seq_intro {τ : Tys} {C : Ctx} {D : Draws} {L : List (Nat × Inv)} {a b : Code} {s : St} {K : KC} (h : ∀ Kv : KC, (∀ s, wpC τ C D L b s K → Kv .normal s) → (∀ i s, K (.exit i) s → Kv (.exit i) s) → (∀ s, K .ret s → Kv .ret s) → wpC τ C D L a s Kv) : wpC τ C D L (.seq a b) s K := by
  unfold wpC
  refine h _ (fun s h => h) (fun i s h => h) fun s h => h
theorem body_intro {τ : Tys} {C : Ctx} {D : Draws} {L : List (Nat × Inv)} {fn : Func} {s : St} {K : KC} (h : wpC τ C D L (fbody fn) s K) : wpC τ C D L (fbody fn) s K := h
theorem wrapI {n : Int} (h : -9223372036854775808 ≤ n) (h' : n < 9223372036854775808) : IntKind.i64.wrap n = n := by
  have e1 : (2 : Int) ^ 64 = 18446744073709551616 := by decide
  have e2 : (2 : Int) ^ (64 - 1) = 9223372036854775808 := by decide
  simp only [IntKind.wrap, IntKind.bits, IntKind.signed, Bool.true_and, decide_eq_true_eq, e1, e2]
  split <;> omega
/-- (The second list: rows and boxes by their own numbers.) -/
def invX (σ : Type) (W X : List Nat) (ok : σ → Prop) (st : σ → St → St) (mu : σ → Nat) : Inv := ⟨σ, W, X, ok, st, mu⟩
/-- A loop that goes over places of a row. -/
def invN (W : List Nat) (ok : Nat → Prop) (st : Nat → St → St) (mu : Nat → Nat) : Inv := ⟨Nat, W, [], ok, st, mu⟩
end Go.Proofs.Ytmgccphapkmmeaa
