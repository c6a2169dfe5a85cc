/- A part of the proof of Nodes: VTy, VCx, VDec, XT, XL, VTau, F1, F2, VIn, VAr, F16a, Fx, VSt, VLa, ClInts, VLb, VLc, VLd, InsInts, F16b, F16c. -/
import Derived.Test.YtaapoiikbolgnaaMLNodes1
import Derived.KernelRfl
import Derived.ChangeArms
import Derived.SizedLaws
import Derived.DataReads
import Derived.Test.YtaapoiikbolgnaaProg
import Derived.Tactics
import Derived.Tactics2
import Derived.StillTactics
import Derived.Laws.Pointers
import Derived.Laws.Small
import Derived.Laws.StructEq
import Derived.Laws.Tables
import Derived.Laws.Cover2
import Derived.Laws.Bits128
import Derived.Laws.Bits64
import Derived.Laws.Strings
import Derived.Shelf.RegionOpenPlain
import Derived.Lib.Walk
import Derived.Lib.SliceRun
import Derived.Laws.AppendOwn
import Derived.Conc.AppendEvents2
import Derived.Sort.Row
import Derived.Laws.IdiomCopy
import Derived.Lib.Overlaps
import Derived.Laws.Externs
import Derived.WalkKit
import Derived.Deep.LoopGhost
import Derived.Deep.RegionLaw
import Derived.Lib.AppendZeros
import Derived.Lib.AppendZerosOnto
import Derived.Maps.AppendAt
/- A symbolic executor for loaded Go code: the type table, checked by computation. -/
namespace Go.Proofs.Ytaapoiikbolgnaa
open Go.RowKit

inductive Tr (α : Type) where
  | nil
  | leaf (k : Nat) (v : α)
  | node (m : Nat) (l r : Tr α)
def Tr.get {α : Type} : Tr α → Nat → Option α
  | .nil, _ => none
  | .leaf k v, t => match Nat.beq k t with
    | true => some v
    | false => none
  | .node m l r, t => match Nat.blt t m with
    | true => l.get t
    | false => r.get t
def Tr.all {α : Type} (p : Nat → α → Bool) : Tr α → Bool
  | .nil => true
  | .leaf k v => p k v
  | .node _ l r => match l.all p with
    | true => r.all p
    | false => false
theorem Tr.get_all {α : Type} {p : Nat → α → Bool} : ∀ {t : Tr α}, t.all p = true → ∀ k v, t.get k = some v → p k v = true
  | .nil, _, k, v, h => by simp [Tr.get] at h
  | .leaf k' v', ha, k, v, h => by
    simp only [Tr.get] at h
    split at h
    · rename_i hk
      obtain rfl := Nat.eq_of_beq_eq_true hk
      simp at h
      subst h
      exact ha
    · simp at h
  | .node m l r, ha, k, v, h => by
    simp only [Tr.all] at ha
    split at ha
    · rename_i hl
      simp only [Tr.get] at h
      split at h
      · exact Tr.get_all hl k v h
      · exact Tr.get_all ha k v h
    · simp at ha
def zeroChk : List SV → List Value → Bool
  | [], [] => true
  | .int k n :: l, .int k' n' :: l' => sameK k k' && decide (n = n') && zeroChk l l'
  | .bool b :: l, .bool c :: l' => sameB b c && zeroChk l l'
  | .str s :: l, .string s' :: l' => decide (s.size = 0) && decide (s'.size = 0) && zeroChk l l'
  | .nilS r :: l, .slice none 0 0 :: l' => decide (r.len = 0) && zeroChk l l'
  | _, _ => false
theorem bytes_empty {s t : ByteArray} (h : s.size = 0) (h' : t.size = 0) : t = s := by
  have key : ∀ {u : ByteArray}, u.size = 0 → u = ByteArray.empty := by
    intro u hu
    obtain ⟨d⟩ := u
    have : d.size = 0 := hu
    have : d = #[] := Array.eq_empty_of_size_eq_zero this
    subst this
    rfl
  rw [key h, key h']
theorem zeroChk_ok (E : Env) (R : List (Nat × Ent)) (w : World) : ∀ (l : List SV) (us : List Value), zeroChk l us = true → L0 (vd0 E R w) l us
  | [], [], _ => L0.nil
  | x :: l, u :: us, h => by
    unfold zeroChk at h
    split at h <;> (try simp only [Bool.and_eq_true, decide_eq_true_eq] at h)
    · rename_i h1 h2; simp at h1
    · rename_i k n l1 k' n' l1' h1 h2
      injection h1 with h1 h3; injection h2 with h2 h4; subst h1; subst h2; subst h3; subst h4
      obtain ⟨⟨h5, h6⟩, h7⟩ := h
      rw [sameK_eq h5, h6]
      exact .cons rfl (zeroChk_ok E R w _ _ h7)
    · rename_i b l1 c l1' h1 h2
      injection h1 with h1 h3; injection h2 with h2 h4; subst h1; subst h2; subst h3; subst h4
      obtain ⟨h5, h7⟩ := h
      rw [sameB_eq h5]
      exact .cons rfl (zeroChk_ok E R w _ _ h7)
    · rename_i s l1 t l1' h1 h2
      injection h1 with h1 h3; injection h2 with h2 h4; subst h1; subst h2; subst h3; subst h4
      obtain ⟨⟨h5, h6⟩, h7⟩ := h
      rw [bytes_empty h5 h6]
      exact .cons rfl (zeroChk_ok E R w _ _ h7)
    · rename_i r l1 l1' h1 h2
      injection h1 with h1 h3; injection h2 with h2 h4; subst h1; subst h2; subst h3; subst h4
      obtain ⟨h5, h7⟩ := h
      exact .cons ⟨rfl, h5⟩ (zeroChk_ok E R w _ _ h7)
    · simp at h
  | [], _ :: _, h => by simp [zeroChk] at h
  | x :: l, [], h => by unfold zeroChk at h; split at h <;> first | (rename_i h1 h2; simp at h2; done) | (simp at h; done) | (rename_i h1 _; simp at h1)
def fldChk : List Field → List (Nat × TypeId) → Bool
  | [], [] => true
  | f :: l, (o, T) :: l' => Nat.beq f.offset o && Nat.beq f.type T && fldChk l l'
  | _, _ => false
theorem fldChk_ok : ∀ (l : List Field) (l' : List (Nat × TypeId)), fldChk l l' = true → l' = l.map fun f => (f.offset, f.type)
  | [], [], _ => rfl
  | f :: l, (o, T) :: l', h => by
    simp only [fldChk, Bool.and_eq_true] at h
    obtain ⟨⟨h1, h2⟩, h3⟩ := h
    rw [fldChk_ok l l' h3, ← Nat.eq_of_beq_eq_true h1, ← Nat.eq_of_beq_eq_true h2]
    rfl
  | [], _ :: _, h => by simp [fldChk] at h
  | _ :: _, [], h => by simp [fldChk] at h
def tdChk : TypeDesc → TD → Bool
  | .int k, .int k' => sameK k k'
  | .bool, .bool => true
  | .string, .str => true
  | .slice e, .slice e' => Nat.beq e e'
  | .struct fa, .struct fs => fldChk fa.toList fs
  | .array n e, .arr n' e' => Nat.beq n n' && Nat.beq e e'
  | _, _ => false
theorem tdChk_ok {d : TypeDesc} {t : TD} (h : tdChk d t = true) : tdOk d t := by
  unfold tdChk at h
  split at h
  · rw [sameK_eq h]; rfl
  · rfl
  · rfl
  · rw [Nat.eq_of_beq_eq_true h]; rfl
  · rename_i fa fs
    refine ⟨fa, rfl, fun j => ?_⟩
    rw [nth_eq, fldChk_ok _ _ h]
    simp
  · simp only [Bool.and_eq_true] at h
    rw [Nat.eq_of_beq_eq_true h.1, Nat.eq_of_beq_eq_true h.2]
    rfl
  · simp at h
def isSomeB {α : Type} : Option α → Bool
  | some _ => true
  | none => false
theorem isSomeB_ok {α : Type} {o : Option α} (h : isSomeB o = true) : ∃ x, o = some x := by cases o with
  | none => simp [isSomeB] at h
  | some x => exact ⟨x, rfl⟩
def subChk (τ : Tys) : TD → Bool
  | .struct fs => fs.all fun p => isSomeB (τ.ti p.2)
  | .arr _ e => isSomeB (τ.ti e)
  | _ => true
def tiChk (P : Program) (τ : Tys) (T : TypeId) (i : TI) : Bool := match P.info? T, P.underlying T with
  | some x, some d => match x.zero with
    | some z => Nat.beq x.size i.sz && Nat.beq x.bytes i.bytes && Nat.beq z.cells.size i.sz && zeroChk i.zero z.cells.toList && tdChk d i.td && subChk τ i.td
    | none => false
  | _, _ => false
theorem tiChk_ok {P : Program} {τ : Tys} {T : TypeId} {i : TI} (h : tiChk P τ T i = true) : TiOk P τ T i := by
  unfold tiChk at h
  split at h
  · rename_i x d hx hd
    split at h
    · rename_i z hz
      simp only [Bool.and_eq_true] at h
      obtain ⟨⟨⟨⟨⟨h1, h2⟩, h3⟩, h4⟩, h5⟩, h6⟩ := h
      refine ⟨?_, ?_, ⟨x, z, hx, Nat.eq_of_beq_eq_true h1, Nat.eq_of_beq_eq_true h2, hz, Nat.eq_of_beq_eq_true h3, fun E R w => zeroChk_ok E R w _ _ h4⟩, ⟨d, hd, tdChk_ok h5⟩⟩
      · intro fs hfs j p hp
        rw [hfs] at h6
        simp only [subChk, List.all_eq_true] at h6
        rw [nth_eq] at hp
        exact isSomeB_ok (h6 p (List.mem_of_getElem? hp))
      · intro n e he
        rw [he] at h6
        exact isSomeB_ok h6
    · simp at h
  · simp at h
def fitB : SV → SV → Bool
  | .int k n, .int k' n' => sameK k k' && decide (n = n')
  | .bool b, .bool c => sameB b c
  | .str s, .str t => decide (s.size = 0) && decide (t.size = 0)
  | .nilS (.ints []), .row _ (.ints []) => true
  | .nilS (.peers []), .row _ (.peers []) => true
  | .nilS (.items []), .row _ (.items []) => true
  | .nilS (.tolds []), .row _ (.tolds []) => true
  | .nilS (.cuts []), .row _ (.cuts []) => true
  | _, _ => false
def fitLB : List SV → List SV → Bool
  | [], [] => true
  | x :: l, y :: l' => fitB x y && fitLB l l'
  | _, _ => false
theorem fitB_ok {x y : SV} (h : fitB x y = true) : Fit x y := by
  unfold fitB at h
  split at h <;> (try simp only [Bool.and_eq_true, decide_eq_true_eq] at h)
  · exact ⟨sameK_eq h.1, h.2⟩
  · exact sameB_eq h
  · exact (bytes_empty h.1 h.2).symm
  · exact ⟨rfl, rfl⟩
  · exact ⟨rfl, rfl⟩
  · exact ⟨rfl, rfl⟩
  · exact ⟨rfl, rfl⟩
  · exact ⟨rfl, rfl⟩
  · simp at h
theorem fitLB_ok : ∀ {l l' : List SV}, fitLB l l' = true → FitL l l'
  | [], [], _ => FitL.nil
  | x :: l, y :: l', h => by
    simp only [fitLB, Bool.and_eq_true] at h
    exact FitL.cons (fitB_ok h.1) (fitLB_ok h.2)
  | [], _ :: _, h => by simp [fitLB] at h
  | _ :: _, [], h => by simp [fitLB] at h
def noRowB : List SV → Bool
  | [] => true
  | .row _ _ :: _ => false
  | _ :: l => noRowB l
theorem noRowB_ok : ∀ {l : List SV}, noRowB l = true → ∀ t r, SV.row t r ∉ l
  | [], _, t, r, h => by simp at h
  | x :: l, h, t, r, hm => by
    unfold noRowB at h
    split at h
    · rename_i h1; simp at h1
    · simp at h
    · rename_i x' l' hne h1
      injection h1 with h1 h2
      subst h1; subst h2
      rcases List.mem_cons.1 hm with e | hm
      · exact hne t r e.symm
      · exact noRowB_ok h t r hm
def rkChk (τ : Tys) (e k : Nat) : Bool := Nat.blt k 12 && Nat.beq (τ.et k) e && match τ.ti e with
  | some i => Nat.beq i.sz (kdSz k) && Nat.beq i.bytes (kdBytes k) && fitLB i.zero ((Rw.zeros k 1).cell .any 0) && noRowB i.zero
  | none => false
theorem rkChk_ok {τ : Tys} {e k : Nat} (h : rkChk τ e k = true) : k < 12 ∧ τ.et k = e ∧ ∃ i, τ.ti e = some i ∧ i.sz = kdSz k ∧ i.bytes = kdBytes k ∧ FitL i.zero ((Rw.zeros k 1).cell .any 0) ∧ ∀ t r, SV.row t r ∉ i.zero := by
  unfold rkChk at h
  simp only [Bool.and_eq_true] at h
  obtain ⟨⟨h1, h2⟩, h3⟩ := h
  split at h3
  · rename_i i hi
    simp only [Bool.and_eq_true] at h3
    obtain ⟨⟨⟨h4, h5⟩, h6⟩, h7⟩ := h3
    exact ⟨Nat.lt_of_succ_le (Nat.le_of_ble_eq_true h1), Nat.eq_of_beq_eq_true h2, i, hi, Nat.eq_of_beq_eq_true h4, Nat.eq_of_beq_eq_true h5, fitLB_ok h6, noRowB_ok h7⟩
  · simp at h3
/-- The table, out of trees. -/
def mkTys (I : Tr TI) (K : Tr Nat) (Et : Tr Nat) (S : Tr (List Nat)) : Tys := ⟨I.get, K.get, fun k => match Et.get k with
  | some e => e
  | none => 0, S.get⟩
theorem tys_ok {P : Program} {I : Tr TI} {K Et : Tr Nat} {S : Tr (List Nat)} (h1 : I.all (tiChk P (mkTys I K Et S)) = true) (h2 : K.all (rkChk (mkTys I K Et S)) = true) (h3 : ∀ T sh, S.get T = some sh → EqOk P T sh) : TysOk P (mkTys I K Et S) :=
  ⟨fun T i h => tiChk_ok (Tr.get_all h1 T i h), h3, fun e k h => rkChk_ok (Tr.get_all h2 e k h)⟩
/-! ### Equality of structs -/
theorem eqCells_int {sh : List Nat} {a b : List SV} {e : Bool} (h : eqCells (0 :: sh) a b = some e) : ∃ x y a' b' e', a = .int .i64 x :: a' ∧ b = .int .i64 y :: b' ∧ eqCells sh a' b' = some e' ∧ e = (decide (x = y) && e') := by
  unfold eqCells at h
  split at h
  · rename_i h1; simp at h1
  · rename_i sh' x a' y b' h1
    injection h1 with _ h1
    subst h1
    split at h
    · rename_i e' he
      simp at h
      subst h
      refine ⟨x, y, a', b', true, rfl, rfl, ?_, by simp⟩
      cases a' <;> cases b' <;> simp [eqCells] at he ⊢
    · rename_i e' hne he
      simp at h
      subst h
      exact ⟨x, y, a', b', e', rfl, rfl, he, rfl⟩
    · simp at h
  · rename_i h1; simp at h1
  · simp at h
theorem eqCells_bool {sh : List Nat} {n : Nat} {a b : List SV} {e : Bool} (h : eqCells ((n + 1) :: sh) a b = some e) : ∃ sx sy x y a' b' e', a = sx :: a' ∧ b = sy :: b' ∧ sx.asBool = some x ∧ sy.asBool = some y ∧ eqCells sh a' b' = some e' ∧ e = ((x == y) && e') := by
  unfold eqCells at h
  split at h
  · rename_i h1; simp at h1
  · rename_i h1; simp at h1
  · rename_i n' sh' x a' y b' h1
    injection h1 with _ h1
    subst h1
    split at h
    · rename_i p q e' hp hq he
      simp at h
      subst h
      refine ⟨x, y, p, q, a', b', true, rfl, rfl, hp, hq, ?_, by simp⟩
      cases a' <;> cases b' <;> simp [eqCells] at he ⊢
    · rename_i p q e' hne hp hq he
      simp at h
      subst h
      exact ⟨x, y, p, q, a', b', e', rfl, rfl, hp, hq, he, rfl⟩
    · simp at h
  · simp at h
theorem eqCells_nil {a b : List SV} {e : Bool} (h : eqCells [] a b = some e) : a = [] ∧ b = [] ∧ e = true := by
  cases a <;> cases b <;> simp [eqCells] at h
  exact ⟨rfl, rfl, h⟩
end Go.Proofs.Ytaapoiikbolgnaa

/- A symbolic executor for loaded Go code: contexts, functions by their facts. -/
namespace Go.Proofs.Ytaapoiikbolgnaa
open Go.RowKit

def mkCtx (l : List (FuncId × Spec)) : Ctx := ⟨fun f => lk l f, fun _ => none⟩
/-- A function with a contract, and what is known of it. -/
structure Known (P : Program) (τ : Tys) (f : FuncId) (sp : Spec) : Prop where
  enters : Enters P f
  valid : Valid P τ f sp
theorem ctx_nil {P : Program} {τ : Tys} : CtxOk P τ (mkCtx []) := ⟨fun f sp h => by simp [mkCtx, lk] at h, fun f sp h => by simp [mkCtx, lk] at h, fun f T h => by simp [mkCtx] at h, fun f T h => by simp [mkCtx] at h⟩
theorem ctx_cons {P : Program} {τ : Tys} {f : FuncId} {sp : Spec} {l : List (FuncId × Spec)} (h : Known P τ f sp) (hl : CtxOk P τ (mkCtx l)) : CtxOk P τ (mkCtx ((f, sp) :: l)) := by
  refine ⟨?_, ?_, fun f T h => by simp [mkCtx] at h, fun f T h => by simp [mkCtx] at h⟩
  · intro g sp' hg
    simp only [mkCtx, lk] at hg
    split at hg
    · rename_i hk
      obtain rfl := Nat.eq_of_beq_eq_true hk
      exact h.enters
    · exact hl.enters g sp' hg
  · intro g sp' hg
    simp only [mkCtx, lk] at hg
    split at hg
    · rename_i hk
      obtain rfl := Nat.eq_of_beq_eq_true hk
      simp at hg
      subst hg
      exact h.valid
    · exact hl.valid g sp' hg
/-- With what another call does to the state. -/
def addTr (f : FuncId) (T : CallT) (C : Ctx) : Ctx := ⟨C.spec, fun g => match Nat.beq f g with
  | true => some T
  | false => C.tr g⟩
structure TrKnown (P : Program) (τ : Tys) (f : FuncId) (T : CallT) : Prop where
  enters : Enters P f
  ok : TrOk P τ f T
theorem ctx_tr {P : Program} {τ : Tys} {f : FuncId} {T : CallT} {C : Ctx} (h : TrKnown P τ f T) (hC : CtxOk P τ C) : CtxOk P τ (addTr f T C) := by
  refine ⟨hC.enters, hC.valid, ?_, ?_⟩
  · intro g T' hg
    simp only [addTr] at hg
    split at hg
    · rename_i hk
      obtain rfl := Nat.eq_of_beq_eq_true hk
      exact h.enters
    · exact hC.trEnters g T' hg
  · intro g T' hg
    simp only [addTr] at hg
    split at hg
    · rename_i hk
      obtain rfl := Nat.eq_of_beq_eq_true hk
      simp at hg
      subst hg
      exact h.ok
    · exact hC.trOk g T' hg
def fbody (fn : Func) : Code := match fn.body with
  | some c => c
  | none => .skip
def isSome' {α : Type} : Option α → Bool
  | some _ => true
  | none => false
/-- What is asked of a function, by computation. -/
def fnOk (D : Draws) (fn : Func) : Bool := isSome' fn.body && !(fn.name == "runtime.NumGoroutine") && codeOk D fn.ntmps (fbody fn)
theorem fnOk_enters {P : Program} {f : FuncId} {fn : Func} {D : Draws} (hf : P.funcs[f]? = some fn) (h : fnOk D fn = true) : Enters P f := by
  simp only [fnOk, Bool.and_eq_true, Bool.not_eq_true'] at h
  intro args w
  have hb : fn.body.isNone = false := by
    cases hb : fn.body with
    | none => rw [hb] at h; simp [isSome'] at h
    | some c => rfl
  have hn : ¬ fn.name = "runtime.NumGoroutine" := by simpa using h.1.2
  have hb' : ¬ fn.body = none := fun e => by rw [e] at hb; simp at hb
  simp [callFunc, hf, hb, hb', hn]
theorem known {P : Program} {τ : Tys} (hm : P.follows .mixedOrders = true) (hτ : TysOk P τ) {f : FuncId} {fn : Func} (hf : P.funcs[f]? = some fn) (D : Draws) (hok : fnOk D fn = true) (sp : Spec)
    (h : ∀ args, argFits args → (sp args).vc fun v rows => allB argOkF args = true ∧ ∃ C, CtxOk P τ C ∧ ∃ L, wpC τ C D L (fbody fn) (startSt args) (retK τ fn.results.toList v rows)) : Known P τ f sp := by
  refine ⟨fnOk_enters hf hok, ?_⟩
  simp only [fnOk, Bool.and_eq_true] at hok
  have hb : fn.body = some (fbody fn) := by
    cases hb : fn.body with
    | none => have := hok.1.1; rw [hb] at this; simp [isSome'] at this
    | some c => simp [fbody, hb]
  exact valid_of_vc hm hτ hf hb D hok.2 sp h
/-! ### How a loop's state is told -/
def withS (l : List (Nat × SV)) : St → St
  | ⟨fr, stk, bx, rw, dep⟩ => ⟨l ++ fr, stk, bx, rw, dep⟩
def withR (l : List (Nat × Ent)) : St → St
  | ⟨fr, stk, bx, rw, dep⟩ => ⟨fr, stk, bx, l ++ rw, dep⟩
def withB (l : List (Nat × (TypeId × List SV))) : St → St
  | ⟨fr, stk, bx, rw, dep⟩ => ⟨fr, stk, l ++ bx, rw, dep⟩
end Go.Proofs.Ytaapoiikbolgnaa

/- A symbolic executor for loaded Go code: contracts by their arguments' shapes. -/
namespace Go.Proofs.Ytaapoiikbolgnaa
open Go.RowKit
set_option maxRecDepth 20000

/-- How an argument is read, and told. -/
structure Dec (α : Type) where
  d : SV → Option α
  e : α → SV
  ok : ∀ x a, d x = some a → x = e a
def dInt : Dec Int := ⟨fun x => match x with
  | .int .i64 n => some n
  | _ => none, fun n => .int .i64 n, fun x a h => by
    split at h <;> simp at h; subst h; rfl⟩
def dInts : Dec (List Int) := ⟨fun x => match x with
  | .row .any (.ints l) => some l
  | _ => none, fun l => .row .any (.ints l), fun x a h => by
    split at h <;> simp at h; subst h; rfl⟩
def dPeers : Dec (List GPeer) := ⟨fun x => match x with
  | .row .any (.peers l) => some l
  | _ => none, fun l => .row .any (.peers l), fun x a h => by
    split at h <;> simp at h; subst h; rfl⟩
def dItems : Dec (List GItem) := ⟨fun x => match x with
  | .row .any (.items l) => some l
  | _ => none, fun l => .row .any (.items l), fun x a h => by
    split at h <;> simp at h; subst h; rfl⟩
def dTolds : Dec (List GTold) := ⟨fun x => match x with
  | .row .any (.tolds l) => some l
  | _ => none, fun l => .row .any (.tolds l), fun x a h => by
    split at h <;> simp at h; subst h; rfl⟩
def dVer : Dec GVer := ⟨fun x => match x with
  | .agg [.int .i64 a, .int .i64 b] => some ⟨a, b⟩
  | _ => none, fun v => .agg [.int .i64 v.count, .int .i64 v.writer], fun x a h => by
    split at h <;> simp at h; subst h; rfl⟩
def dPeer : Dec GPeer := ⟨fun x => match x with
  | .agg [.int .i64 a, .int .i64 b] => some ⟨a, b⟩
  | _ => none, fun v => .agg [.int .i64 v.id, .int .i64 v.missed], fun x a h => by
    split at h <;> simp at h; subst h; rfl⟩
def dTold : Dec GTold := ⟨fun x => match x with
  | .agg [.int .i64 a, .bool c, .int .i64 b] => some ⟨a, c, b⟩
  | _ => none, fun v => .agg [.int .i64 v.key, .bool v.has, .int .i64 v.value], fun x a h => by
    split at h <;> simp at h; subst h; rfl⟩
def dItem : Dec GItem := ⟨fun x => match x with
  | .agg [.int .i64 k, .int .i64 c, .int .i64 w, .int .i64 v, .bool g] => some ⟨k, ⟨c, w⟩, v, g⟩
  | _ => none, fun i => .agg [.int .i64 i.key, .int .i64 i.ver.count, .int .i64 i.ver.writer, .int .i64 i.value, .bool i.gone], fun x a h => by
    split at h <;> simp at h; subst h; rfl⟩
def dView : Dec GView := ⟨fun x => match x with
  | .agg [.int .i64 id, .row .any (.peers p), .row .any (.ints q)] => some ⟨id, p, q⟩
  | _ => none, fun v => .agg [.int .i64 v.id, .row .any (.peers v.peers), .row .any (.ints v.passive)], fun x a h => by
    split at h <;> simp at h; subst h; rfl⟩
def dNode : Dec GNode := ⟨fun x => match x with
  | .agg [.bool up, .int .i64 id, .row .any (.peers p), .row .any (.ints q), .row .any (.items i), .row .any (.tolds l)] => some ⟨up, ⟨id, p, q⟩, i, l⟩
  | _ => none, fun n => .agg [.bool n.up, .int .i64 n.view.id, .row .any (.peers n.view.peers), .row .any (.ints n.view.passive), .row .any (.items n.items), .row .any (.tolds n.log)], fun x a h => by
    split at h <;> simp at h; subst h; rfl⟩
/-- A function value without anything of its own. -/
def dFn (f : FuncId) : Dec Unit := ⟨fun x => match x with
  | .clo g [] [] => match Nat.beq g f with
    | true => some ()
    | false => none
  | _ => none, fun _ => .clo f [] [], fun x a h => by
    split at h
    · split at h
      · rename_i hg; rw [Nat.eq_of_beq_eq_true hg]
      · simp at h
    · simp at h⟩

def S0 (f : Out) : Spec := fun args => match args with
  | [] => f
  | _ => .bad
def S1 {α : Type} (A : Dec α) (f : α → Out) : Spec := fun args => match args with
  | [x] => match A.d x with
    | some a => f a
    | none => .bad
  | _ => .bad
def S2 {α β : Type} (A : Dec α) (B : Dec β) (f : α → β → Out) : Spec := fun args => match args with
  | [x, y] => match A.d x, B.d y with
    | some a, some b => f a b
    | _, _ => .bad
  | _ => .bad
def S3 {α β γ : Type} (A : Dec α) (B : Dec β) (C : Dec γ) (f : α → β → γ → Out) : Spec := fun args => match args with
  | [x, y, z] => match A.d x, B.d y, C.d z with
    | some a, some b, some c => f a b c
    | _, _, _ => .bad
  | _ => .bad
section
variable {P : Program} {τ : Tys} {α β γ δ ε ζ : Type}
/-- What a function's body has to meet. -/
noncomputable def Meets (P : Program) (τ : Tys) (D : Draws) (fn : Func) (args : List SV) (r : Out) : Prop :=
  argFits args → r.vc fun v rows => allB argOkF args = true ∧ ∃ C, CtxOk P τ C ∧ ∃ L, wpC τ C D L (fbody fn) (startSt args) (retK τ fn.results.toList v rows)
/-- The same, in a context told ahead. -/
noncomputable def MeetsC (τ : Tys) (C : Ctx) (D : Draws) (fn : Func) (args : List SV) (r : Out) : Prop :=
  argFits args → r.vc fun v rows => allB argOkF args = true ∧ ∃ L, wpC τ C D L (fbody fn) (startSt args) (retK τ fn.results.toList v rows)
theorem MeetsC.to {C : Ctx} (hC : CtxOk P τ C) {D : Draws} {fn : Func} {args : List SV} {r : Out} (h : MeetsC τ C D fn args r) : Meets P τ D fn args r := fun ha => by
  have := h ha
  cases r with
  | ok v rows => exact ⟨this.1, C, hC, this.2⟩
  | ob q v rows => exact fun hq => ⟨(this hq).1, C, hC, (this hq).2⟩
  | bad => trivial
section
variable (hm : P.follows .mixedOrders = true) (hτ : TysOk P τ) {f : FuncId} {fn : Func} (hf : P.funcs[f]? = some fn) (D : Draws) (hok : fnOk D fn = true)
include hm hτ hf hok
theorem knownX0 (g : Out) (h : Meets P τ D fn [] g) : Known P τ f (S0 g) := by
  refine known hm hτ hf D hok _ fun args ha => ?_
  unfold S0
  split
  · exact h ha
  · trivial
theorem knownX1 (A : Dec α) (g : α → Out) (h : ∀ a, Meets P τ D fn [A.e a] (g a)) : Known P τ f (S1 A g) := by
  refine known hm hτ hf D hok _ fun args ha => ?_
  unfold S1
  split
  · split
    · rename_i x a hx; obtain rfl := A.ok _ _ hx; exact h a ha
    · trivial
  · trivial
theorem knownX2 (A : Dec α) (B : Dec β) (g : α → β → Out) (h : ∀ a b, Meets P τ D fn [A.e a, B.e b] (g a b)) : Known P τ f (S2 A B g) := by
  refine known hm hτ hf D hok _ fun args ha => ?_
  unfold S2
  split
  · split
    · rename_i x y a b hx hy; obtain rfl := A.ok _ _ hx; obtain rfl := B.ok _ _ hy; exact h a b ha
    · trivial
  · trivial
theorem knownX3 (A : Dec α) (B : Dec β) (G : Dec γ) (g : α → β → γ → Out) (h : ∀ a b c, Meets P τ D fn [A.e a, B.e b, G.e c] (g a b c)) : Known P τ f (S3 A B G g) := by
  refine known hm hτ hf D hok _ fun args ha => ?_
  unfold S3
  split
  · split
    · rename_i x y z a b c hx hy hz; obtain rfl := A.ok _ _ hx; obtain rfl := B.ok _ _ hy; obtain rfl := G.ok _ _ hz; exact h a b c ha
    · trivial
  · trivial
end
section
variable (hm : P.follows .mixedOrders = true) (hτ : TysOk P τ) {C : Ctx} (hC : CtxOk P τ C) {f : FuncId} {fn : Func} (hf : P.funcs[f]? = some fn) (D : Draws) (hok : fnOk D fn = true)
include hm hτ hC hf hok
theorem known0 (g : Out) (h : MeetsC τ C D fn [] g) : Known P τ f (S0 g) := knownX0 hm hτ hf D hok g (h.to hC)
theorem known1 (A : Dec α) (g : α → Out) (h : ∀ a, MeetsC τ C D fn [A.e a] (g a)) : Known P τ f (S1 A g) := knownX1 hm hτ hf D hok A g fun a => (h a).to hC
theorem known2 (A : Dec α) (B : Dec β) (g : α → β → Out) (h : ∀ a b, MeetsC τ C D fn [A.e a, B.e b] (g a b)) : Known P τ f (S2 A B g) := knownX2 hm hτ hf D hok A B g fun a b => (h a b).to hC
theorem known3 (A : Dec α) (B : Dec β) (G : Dec γ) (g : α → β → γ → Out) (h : ∀ a b c, MeetsC τ C D fn [A.e a, B.e b, G.e c] (g a b c)) : Known P τ f (S3 A B G g) := knownX3 hm hτ hf D hok A B G g fun a b c => (h a b c).to hC
end
end
/-- What follows is told by a name: so that Lean's kernel doesn't look into it. -/
theorem SqI {τ : Tys} {C : Ctx} {D : Draws} {L : List (Nat × Inv)} {a b : Code} {s : St} {K : KC} (hJ : lkI L (1000000 + Code.first b) = none) (h : ∀ Kv : KC, (∀ s, wpC τ C D L b s K → Kv .normal s) → (∀ i s, K (.exit i) s → Kv (.exit i) s) → (∀ s, K .ret s → Kv .ret s) → wpC τ C D L a s Kv) : wpC τ C D L (.seq a b) s K := by
  unfold wpC
  rw [hJ]
  refine h _ (fun s h => h) (fun i s h => h) fun s h => h
/-- (Evaluation halts at it.) -/
structure Join (p q : Prop) : Prop where
  out : p ∧ q
/-- Where a state is told anew: orders and branches joined. -/
theorem JnI {τ : Tys} {C : Ctx} {D : Draws} {L : List (Nat × Inv)} {a b : Code} {s : St} {K : KC} {σ : Type} {W X : List Nat} {ok : σ → Prop} {st : σ → St → St} {mu : σ → Nat} {fl : Option (List Nat)} {ad : List (Nat × (Nat × Nat))} (hJ : lkI L (1000000 + Code.first b) = some ⟨σ, W, X, ok, st, mu, fl, ad⟩)
    (h : flatC (keepOf fl) (entry W X s.dep s) fun e0 => Join (∀ Kv : KC, (∀ s', (∃ g : σ, ok g ∧ flatC (keepOf fl) s' fun s1 => St.sub (st g e0) s1) → Kv .normal s') → (∀ i s, K (.exit i) s → Kv (.exit i) s) → (∀ s, K .ret s → Kv .ret s) → wpC τ C D L a s Kv) (∀ g : σ, ok g → forceAll (st g e0) fun s0 => Stop (wpC τ C D L b s0 K))) : wpC τ C D L (.seq a b) s K := by
  unfold wpC
  rw [hJ]
  rw [flatC_eq] at h
  dsimp only
  rw [flatC_eq]
  exact ⟨h.out.1 _ (fun s h => h) (fun i s h => h) fun s h => h, h.out.2⟩
theorem BdI {τ : Tys} {C : Ctx} {D : Draws} {L : List (Nat × Inv)} {fn : Func} {s : St} {K : KC} (h : wpC τ C D L (fbody fn) s K) : wpC τ C D L (fbody fn) s K := h
theorem BdS {τ : Tys} {C : Ctx} {D : Draws} {L : List (Nat × Inv)} {fn : Func} {s : St} {K : KC} (h : ∀ Kv : KC, (∀ s, K .normal s → Kv .normal s) → (∀ i s, K (.exit i) s → Kv (.exit i) s) → (∀ s, K .ret s → Kv .ret s) → wpC τ C D L (fbody fn) s Kv) : Stop (wpC τ C D L (fbody fn) s K) :=
  Stop.mk (h K (fun _ h => h) (fun _ _ h => h) fun _ h => h)
/-! ### Drawn regions: their orders joined -/
theorem subV_refl (v : SV) : subV v v := by
  cases v <;> first | exact trivial | exact ⟨rfl, rfl⟩ | rfl | skip
  rename_i t r
  cases t <;> rfl
theorem subL_refl : ∀ l : List SV, subL l l
  | [] => trivial
  | v :: l => ⟨subV_refl v, subL_refl l⟩
theorem subStk_refl : ∀ l : List (List (Nat × SV)), subStk l l
  | [] => trivial
  | f :: l => ⟨rfl, subStk_refl l⟩
theorem memN_cons {n k : Nat} {l : List Nat} (h : memN n (k :: l) = false) : Nat.beq n k = false ∧ memN n l = false := by
  simp only [memN] at h
  split at h
  · simp at h
  · rename_i h1; exact ⟨h1, h⟩
theorem beq_comm_ff {a b : Nat} (h : Nat.beq a b = false) : Nat.beq b a = false := by
  cases h1 : Nat.beq b a with
  | false => rfl
  | true => have := Nat.eq_of_beq_eq_true h1; subst this; rw [Nat.beq_refl] at h; simp at h
theorem subFr_cut {f : List (Nat × SV)} : ∀ (l : List (Nat × SV)) (W : List Nat), (∀ t, memN t W = false → lkv f t = lkv l t) → subFr f (cutF W l)
  | [], W, _ => trivial
  | (t, v) :: l, W, h => by
    simp only [cutF]
    split
    · rename_i hm
      refine subFr_cut l W fun t' ht' => ?_
      rw [h t' ht', lkv]
      split
      · rename_i hk
        have := Nat.eq_of_beq_eq_true hk
        subst this
        rw [hm] at ht'; simp at ht'
      · rfl
    · rename_i hm
      refine ⟨?_, subFr_cut l (t :: W) fun t' ht' => ?_⟩
      · rw [h t hm, lkv, Nat.beq_refl]
        exact subV_refl v
      · obtain ⟨h1, h2⟩ := memN_cons ht'
        rw [h t' h2, lkv, beq_comm_ff h1]
theorem lk_cutK {α : Type} {f : List (Nat × α)} {p : Nat → α → Prop} : ∀ (l : List (Nat × α)) (W : List Nat), (∀ t, memN t W = false → lk f t = lk l t) → (∀ k v, lk f k = some v → p k v) → ∀ x ∈ cutK W l, p x.1 x.2
  | [], W, _, _, x, hx => by simp [cutK] at hx
  | (t, v) :: l, W, h, hp, x, hx => by
    simp only [cutK] at hx
    split at hx
    · rename_i hm
      refine lk_cutK l W (fun t' ht' => ?_) hp x hx
      rw [h t' ht', lk]
      split
      · rename_i hk
        have := Nat.eq_of_beq_eq_true hk
        subst this
        rw [hm] at ht'; simp at ht'
      · rfl
    · rename_i hm
      rcases List.mem_cons.1 hx with rfl | hx
      · refine hp _ _ ?_
        rw [h t hm, lk, Nat.beq_refl]
      · refine lk_cutK l (t :: W) (fun t' ht' => ?_) hp x hx
        obtain ⟨h1, h2⟩ := memN_cons ht'
        rw [h t' h2, lk, beq_comm_ff h1]
theorem subE_refl (e : Ent) : subE e e := by cases e <;> first | rfl | skip
theorem subRw_all {R : List (Nat × Ent)} : ∀ l : List (Nat × Ent), (∀ x ∈ l, lk R x.1 = some x.2) → subRw R l
  | [], _ => trivial
  | (k, e) :: l, h => by
    refine ⟨?_, subRw_all l fun x hx => h x (List.mem_cons_of_mem _ hx)⟩
    rw [h (k, e) (by simp)]
    exact subE_refl e
theorem subBx_all {R : List (Nat × (TypeId × List SV))} : ∀ l : List (Nat × (TypeId × List SV)), (∀ x ∈ l, lk R x.1 = some x.2) → subBx R l
  | [], _ => trivial
  | (k, (T, cs)) :: l, h => by
    refine ⟨?_, subBx_all l fun x hx => h x (List.mem_cons_of_mem _ hx)⟩
    rw [h (k, (T, cs)) (by simp)]
    exact ⟨rfl, subL_refl cs⟩
def St.clean : St → St
  | ⟨fr, stk, bx, rw, dep⟩ => ⟨cutF [] fr, stk, cutK [] bx, cutK [] rw, dep⟩
theorem SubJ.self (s : St) : SubJ s.clean s := by
  refine ⟨?_⟩
  obtain ⟨fr, stk, bx, rw', dep⟩ := s
  simp only [St.clean, St.sub, Nat.beq_refl]
  exact ⟨subStk_refl _, subFr_cut fr [] fun _ _ => rfl, subBx_all _ (lk_cutK (p := fun k v => lk bx k = some v) bx [] (fun _ _ => rfl) fun _ _ h => h), subRw_all _ (lk_cutK (p := fun k v => lk rw' k = some v) rw' [] (fun _ _ => rfl) fun _ _ h => h)⟩
theorem SubJ.of {T s : St} (h : St.sub T s) : SubJ T s := ⟨h⟩
theorem DrawJ.join {p : (St → Prop) → Prop} {K : St → Prop} (T : St) (h : p fun s => SubJ T s) (hK : K T) : DrawJ p K := ⟨.inr ⟨T, h, hK⟩⟩
theorem DrawJ.each {p : (St → Prop) → Prop} {K : St → Prop} (h : p K) : DrawJ p K := ⟨.inl h⟩
theorem wrapI {n : Int} (h : -9223372036854775808 ≤ n) (h' : n < 9223372036854775808) : IntKind.i64.wrap n = n := by
  have e1 : (2 : Int) ^ 64 = 18446744073709551616 := by decide
  have e2 : (2 : Int) ^ (64 - 1) = 9223372036854775808 := by decide
  simp only [IntKind.wrap, IntKind.bits, IntKind.signed, Bool.true_and, decide_eq_true_eq, e1, e2]
  split <;> omega
/-- (The second list: rows and boxes by their own numbers.) -/
def invX (σ : Type) (W X : List Nat) (ok : σ → Prop) (st : σ → St → St) (mu : σ → Nat) : Inv := ⟨σ, W, X, ok, st, mu, none, []⟩
/-- The same where rows are written no more, but for those. -/
def invF (σ : Type) (keep W X : List Nat) (ok : σ → Prop) (st : σ → St → St) (mu : σ → Nat) : Inv := ⟨σ, W, X, ok, st, mu, some keep, []⟩
/-- A loop that goes over places of a row. -/
def invN (W : List Nat) (ok : Nat → Prop) (st : Nat → St → St) (mu : Nat → Nat) : Inv := ⟨Nat, W, [], ok, st, mu, none, []⟩
end Go.Proofs.Ytaapoiikbolgnaa

/- The arguments of a row, read aS data: what they say. -/
namespace Go.Proofs.Ytaapoiikbolgnaa
open Go.RowKit

def like : SV → SV → Prop
  | .int k _, x => ∃ n, x = .int k n
  | .bool _, x => ∃ b, x = .bool b
  | .str _, x => ∃ s, x = .str s
  | .nilS r, x => ∃ r' : Rw, x = .row .any r' ∧ r'.kd = r.kd
  | .row _ r, x => ∃ r' : Rw, x = .row .any r' ∧ r'.kd = r.kd
  | _, _ => False
def likeL (z xs : List SV) : Prop := z.length = xs.length ∧ ∀ (j : Nat) y, z[j]? = some y → ∃ x, xs[j]? = some x ∧ like y x
def samePat : SV → SV → Bool
  | .int k _, .int k' _ => sameK k k'
  | .bool _, .bool _ => true
  | .str _, .str _ => true
  | .nilS r, .nilS r' => Nat.beq r.kd r'.kd
  | _, _ => false
def samePatL : List SV → List SV → Bool
  | [], [] => true
  | x :: l, y :: l' => samePat x y && samePatL l l'
  | _, _ => false
def fldPat (τ : Tys) : List (Nat × TypeId) → Nat → List SV → Bool
  | [], _, zs => match zs with
    | [] => true
    | _ => false
  | (o, F) :: fs, off, zs => Nat.beq o off && match τ.ti F with
    | some i => samePatL i.zero (zs.take i.sz) && fldPat τ fs (off + i.sz) (zs.drop i.sz)
    | none => false
def patChk (τ : Tys) (i : TI) : Bool := match i.td, i.zero with
  | .int k, [.int k' _] => sameK k k'
  | .bool, [.bool _] => true
  | .str, [.str _] => true
  | .slice e, [.nilS r] => match τ.rk e with
    | some k => Nat.beq r.kd k
    | none => false
  | .struct fs, zs => fldPat τ fs 0 zs && Nat.beq zs.length i.sz
  | _, _ => false
/-- May an argument of that type be read so? -/
def readable (τ : Tys) : Nat → TypeId → Bool
  | 0, _ => false
  | n + 1, T => match τ.ti T with
    | some i => patChk τ i && match i.td with
      | .slice e => readable τ n e
      | .struct fs => fs.all fun q => readable τ n q.2
      | _ => true
    | none => false
theorem samePat_like {z y x : SV} (h : samePat z y = true) (hl : like z x) : like y x := by
  unfold samePat at h
  split at h
  · rw [← sameK_eq h]; exact hl
  · exact hl
  · exact hl
  · have := Nat.eq_of_beq_eq_true h
    obtain ⟨r', h1, h2⟩ := hl
    exact ⟨r', h1, by rw [← this]; exact h2⟩
  · simp at h
theorem likeL.cons_inv {z : SV} {zs xs : List SV} (h : likeL (z :: zs) xs) : ∃ x xs', xs = x :: xs' ∧ like z x ∧ likeL zs xs' := by
  cases xs with
  | nil => have := h.1; simp at this
  | cons x xs =>
    obtain ⟨x', h1, h2⟩ := h.2 0 z (by simp)
    simp at h1
    subst h1
    exact ⟨x, xs, rfl, h2, by have := h.1; simpa using this, fun j y hy => by simpa using h.2 (j + 1) y (by simpa using hy)⟩
theorem likeL.nil_inv {xs : List SV} (h : likeL [] xs) : xs = [] := by
  have := h.1; simp at this; exact List.eq_nil_of_length_eq_zero this.symm
theorem likeL.nil : likeL [] [] := ⟨rfl, fun j y h => by simp at h⟩
theorem likeL.cons {z x : SV} {zs xs : List SV} (h : like z x) (hl : likeL zs xs) : likeL (z :: zs) (x :: xs) := by
  refine ⟨by simp [hl.1], fun j y hy => ?_⟩
  cases j with
  | zero => simp at hy; subst hy; exact ⟨x, by simp, h⟩
  | succ j => simpa using hl.2 j y (by simpa using hy)
theorem samePatL_like : ∀ {z y xs : List SV}, samePatL z y = true → likeL z xs → likeL y xs
  | [], [], xs, _, h => h
  | z :: zs, y :: ys, xs, hp, h => by
    simp only [samePatL, Bool.and_eq_true] at hp
    obtain ⟨x, xs', rfl, h1, h2⟩ := h.cons_inv
    exact .cons (samePat_like hp.1 h1) (samePatL_like hp.2 h2)
  | [], _ :: _, _, h, _ => by simp [samePatL] at h
  | _ :: _, [], _, h, _ => by simp [samePatL] at h
theorem likeL.append {z y xs ys : List SV} (h : likeL z xs) (h' : likeL y ys) : likeL (z ++ y) (xs ++ ys) := by
  induction z generalizing xs with
  | nil => obtain rfl := h.nil_inv; exact h'
  | cons z zs ih =>
    obtain ⟨x, xs', rfl, h1, h2⟩ := h.cons_inv
    exact .cons h1 (ih h2)
/-- An element of each kind of row. -/
theorem mkLike (k n : Nat) (hk : k < 12) (X : Nat → List SV) (h : ∀ i, i < n → likeL ((Rw.zeros k 1).cell .any 0) (X i)) : ∃ r : Rw, r.kd = k ∧ r.len = n ∧ ∀ i, i < n → r.cell .any i = X i := by
  have build : ∀ {α : Type} (d : α) (f : List α → Rw) (c : α → List SV), (∀ l, (f l).len = l.length) → (∀ l i, (f l).cell .any i = c (l.getD i d)) → (∀ l, (f l).kd = k) → (∀ i, i < n → ∃ a, c a = X i) → ∃ r : Rw, r.kd = k ∧ r.len = n ∧ ∀ i, i < n → r.cell .any i = X i := by
    intro α d f c h1 h2 h3 h4
    obtain ⟨l, hl, hg⟩ : ∃ l : List α, l.length = n ∧ ∀ i, i < n → c (l.getD i d) = X i := by
      refine ⟨(List.range n).map fun i => if hi : i < n then Classical.choose (h4 i hi) else d, by simp, fun i hi => ?_⟩
      simp only [List.getD_eq_getElem?_getD, List.getElem?_map, List.getElem?_range hi, Option.map_some, Option.getD_some, hi, dif_pos]
      exact Classical.choose_spec (h4 i hi)
    exact ⟨f l, h3 l, by rw [h1, hl], fun i hi => by rw [h2, hg i hi]⟩
  obtain rfl | rfl | rfl | rfl | rfl | rfl | rfl | rfl | rfl | rfl | rfl | rfl : k = 0 ∨ k = 1 ∨ k = 2 ∨ k = 3 ∨ k = 4 ∨ k = 5 ∨ k = 6 ∨ k = 7 ∨ k = 8 ∨ k = 9 ∨ k = 10 ∨ k = 11 := by omega
  · refine build ((0 : Int)) .ints (fun x => [.int .i64 x]) (fun _ => rfl) (fun _ _ => rfl) (fun _ => rfl) fun i hi => ?_
    have hh : likeL _ (X i) := h i hi
    obtain ⟨x0, xs0, e0, l0, g0⟩ := likeL.cons_inv (show likeL (_ :: _) _ from hh)
    have en := likeL.nil_inv (show likeL [] _ from g0)
    obtain ⟨a0, rfl⟩ := l0
    subst en
    exact ⟨a0, e0.symm⟩
  · refine build ((0 : Int)) .bytes (fun x => [.int .u8 x]) (fun _ => rfl) (fun _ _ => rfl) (fun _ => rfl) fun i hi => ?_
    have hh : likeL _ (X i) := h i hi
    obtain ⟨x0, xs0, e0, l0, g0⟩ := likeL.cons_inv (show likeL (_ :: _) _ from hh)
    have en := likeL.nil_inv (show likeL [] _ from g0)
    obtain ⟨a0, rfl⟩ := l0
    subst en
    exact ⟨a0, e0.symm⟩
  · refine build (ByteArray.empty) .strs (fun x => [.str x]) (fun _ => rfl) (fun _ _ => rfl) (fun _ => rfl) fun i hi => ?_
    have hh : likeL _ (X i) := h i hi
    obtain ⟨x0, xs0, e0, l0, g0⟩ := likeL.cons_inv (show likeL (_ :: _) _ from hh)
    have en := likeL.nil_inv (show likeL [] _ from g0)
    obtain ⟨a0, rfl⟩ := l0
    subst en
    exact ⟨a0, e0.symm⟩
  · refine build (default) .peers (GPeer.cells) (fun _ => rfl) (fun _ _ => rfl) (fun _ => rfl) fun i hi => ?_
    have hh : likeL _ (X i) := h i hi
    obtain ⟨x0, xs0, e0, l0, g0⟩ := likeL.cons_inv (show likeL (_ :: _) _ from hh)
    obtain ⟨x1, xs1, e1, l1, g1⟩ := likeL.cons_inv (show likeL (_ :: _) _ from g0)
    have en := likeL.nil_inv (show likeL [] _ from g1)
    obtain ⟨a0, rfl⟩ := l0
    obtain ⟨a1, rfl⟩ := l1
    subst en
    subst e1
    exact ⟨⟨a0, a1⟩, e0.symm⟩
  · refine build (default) .items (GItem.cells) (fun _ => rfl) (fun _ _ => rfl) (fun _ => rfl) fun i hi => ?_
    have hh : likeL _ (X i) := h i hi
    obtain ⟨x0, xs0, e0, l0, g0⟩ := likeL.cons_inv (show likeL (_ :: _) _ from hh)
    obtain ⟨x1, xs1, e1, l1, g1⟩ := likeL.cons_inv (show likeL (_ :: _) _ from g0)
    obtain ⟨x2, xs2, e2, l2, g2⟩ := likeL.cons_inv (show likeL (_ :: _) _ from g1)
    obtain ⟨x3, xs3, e3, l3, g3⟩ := likeL.cons_inv (show likeL (_ :: _) _ from g2)
    obtain ⟨x4, xs4, e4, l4, g4⟩ := likeL.cons_inv (show likeL (_ :: _) _ from g3)
    have en := likeL.nil_inv (show likeL [] _ from g4)
    obtain ⟨a0, rfl⟩ := l0
    obtain ⟨a1, rfl⟩ := l1
    obtain ⟨a2, rfl⟩ := l2
    obtain ⟨a3, rfl⟩ := l3
    obtain ⟨a4, rfl⟩ := l4
    subst en
    subst e4
    subst e3
    subst e2
    subst e1
    exact ⟨⟨a0, ⟨a1, a2⟩, a3, a4⟩, e0.symm⟩
  · refine build (default) .tolds (GTold.cells) (fun _ => rfl) (fun _ _ => rfl) (fun _ => rfl) fun i hi => ?_
    have hh : likeL _ (X i) := h i hi
    obtain ⟨x0, xs0, e0, l0, g0⟩ := likeL.cons_inv (show likeL (_ :: _) _ from hh)
    obtain ⟨x1, xs1, e1, l1, g1⟩ := likeL.cons_inv (show likeL (_ :: _) _ from g0)
    obtain ⟨x2, xs2, e2, l2, g2⟩ := likeL.cons_inv (show likeL (_ :: _) _ from g1)
    have en := likeL.nil_inv (show likeL [] _ from g2)
    obtain ⟨a0, rfl⟩ := l0
    obtain ⟨a1, rfl⟩ := l1
    obtain ⟨a2, rfl⟩ := l2
    subst en
    subst e2
    subst e1
    exact ⟨⟨a0, a1, a2⟩, e0.symm⟩
  · refine build (default) .cuts (GCut.cells) (fun _ => rfl) (fun _ _ => rfl) (fun _ => rfl) fun i hi => ?_
    have hh : likeL _ (X i) := h i hi
    obtain ⟨x0, xs0, e0, l0, g0⟩ := likeL.cons_inv (show likeL (_ :: _) _ from hh)
    obtain ⟨x1, xs1, e1, l1, g1⟩ := likeL.cons_inv (show likeL (_ :: _) _ from g0)
    have en := likeL.nil_inv (show likeL [] _ from g1)
    obtain ⟨a0, rfl⟩ := l0
    obtain ⟨a1, rfl⟩ := l1
    subst en
    subst e1
    exact ⟨⟨a0, a1⟩, e0.symm⟩
  · refine build (default) .msgs (GMsg.cells .any) (fun _ => rfl) (fun _ _ => rfl) (fun _ => rfl) fun i hi => ?_
    have hh : likeL _ (X i) := h i hi
    obtain ⟨x0, xs0, e0, l0, g0⟩ := likeL.cons_inv (show likeL (_ :: _) _ from hh)
    obtain ⟨x1, xs1, e1, l1, g1⟩ := likeL.cons_inv (show likeL (_ :: _) _ from g0)
    obtain ⟨x2, xs2, e2, l2, g2⟩ := likeL.cons_inv (show likeL (_ :: _) _ from g1)
    obtain ⟨x3, xs3, e3, l3, g3⟩ := likeL.cons_inv (show likeL (_ :: _) _ from g2)
    obtain ⟨x4, xs4, e4, l4, g4⟩ := likeL.cons_inv (show likeL (_ :: _) _ from g3)
    obtain ⟨x5, xs5, e5, l5, g5⟩ := likeL.cons_inv (show likeL (_ :: _) _ from g4)
    obtain ⟨x6, xs6, e6, l6, g6⟩ := likeL.cons_inv (show likeL (_ :: _) _ from g5)
    obtain ⟨x7, xs7, e7, l7, g7⟩ := likeL.cons_inv (show likeL (_ :: _) _ from g6)
    obtain ⟨x8, xs8, e8, l8, g8⟩ := likeL.cons_inv (show likeL (_ :: _) _ from g7)
    obtain ⟨x9, xs9, e9, l9, g9⟩ := likeL.cons_inv (show likeL (_ :: _) _ from g8)
    obtain ⟨x10, xs10, e10, l10, g10⟩ := likeL.cons_inv (show likeL (_ :: _) _ from g9)
    have en := likeL.nil_inv (show likeL [] _ from g10)
    obtain ⟨a0, rfl⟩ := l0
    obtain ⟨a1, rfl⟩ := l1
    obtain ⟨a2, rfl⟩ := l2
    obtain ⟨q3, rfl, k3⟩ := l3
    obtain ⟨a3, rfl⟩ : ∃ l, q3 = .ints l := by cases q3 <;> first | exact ⟨_, rfl⟩ | (simp [Rw.kd] at k3; done)
    obtain ⟨a4, rfl⟩ := l4
    obtain ⟨a5, rfl⟩ := l5
    obtain ⟨a6, rfl⟩ := l6
    obtain ⟨a7, rfl⟩ := l7
    obtain ⟨a8, rfl⟩ := l8
    obtain ⟨a9, rfl⟩ := l9
    obtain ⟨a10, rfl⟩ := l10
    subst en
    subst e10
    subst e9
    subst e8
    subst e7
    subst e6
    subst e5
    subst e4
    subst e3
    subst e2
    subst e1
    exact ⟨⟨a0, a1, a2, a3, a4, ⟨a5, ⟨a6, a7⟩, a8, a9⟩, a10⟩, e0.symm⟩
  · refine build (default) .nodes (GNode.cells .any) (fun _ => rfl) (fun _ _ => rfl) (fun _ => rfl) fun i hi => ?_
    have hh : likeL _ (X i) := h i hi
    obtain ⟨x0, xs0, e0, l0, g0⟩ := likeL.cons_inv (show likeL (_ :: _) _ from hh)
    obtain ⟨x1, xs1, e1, l1, g1⟩ := likeL.cons_inv (show likeL (_ :: _) _ from g0)
    obtain ⟨x2, xs2, e2, l2, g2⟩ := likeL.cons_inv (show likeL (_ :: _) _ from g1)
    obtain ⟨x3, xs3, e3, l3, g3⟩ := likeL.cons_inv (show likeL (_ :: _) _ from g2)
    obtain ⟨x4, xs4, e4, l4, g4⟩ := likeL.cons_inv (show likeL (_ :: _) _ from g3)
    obtain ⟨x5, xs5, e5, l5, g5⟩ := likeL.cons_inv (show likeL (_ :: _) _ from g4)
    have en := likeL.nil_inv (show likeL [] _ from g5)
    obtain ⟨a0, rfl⟩ := l0
    obtain ⟨a1, rfl⟩ := l1
    obtain ⟨q2, rfl, k2⟩ := l2
    obtain ⟨a2, rfl⟩ : ∃ l, q2 = .peers l := by cases q2 <;> first | exact ⟨_, rfl⟩ | (simp [Rw.kd] at k2; done)
    obtain ⟨q3, rfl, k3⟩ := l3
    obtain ⟨a3, rfl⟩ : ∃ l, q3 = .ints l := by cases q3 <;> first | exact ⟨_, rfl⟩ | (simp [Rw.kd] at k3; done)
    obtain ⟨q4, rfl, k4⟩ := l4
    obtain ⟨a4, rfl⟩ : ∃ l, q4 = .items l := by cases q4 <;> first | exact ⟨_, rfl⟩ | (simp [Rw.kd] at k4; done)
    obtain ⟨q5, rfl, k5⟩ := l5
    obtain ⟨a5, rfl⟩ : ∃ l, q5 = .tolds l := by cases q5 <;> first | exact ⟨_, rfl⟩ | (simp [Rw.kd] at k5; done)
    subst en
    subst e5
    subst e4
    subst e3
    subst e2
    subst e1
    exact ⟨⟨a0, ⟨a1, a2, a3⟩, a4, a5⟩, e0.symm⟩
  · refine build (default) .acts (GAct.cells .any) (fun _ => rfl) (fun _ _ => rfl) (fun _ => rfl) fun i hi => ?_
    have hh : likeL _ (X i) := h i hi
    obtain ⟨x0, xs0, e0, l0, g0⟩ := likeL.cons_inv (show likeL (_ :: _) _ from hh)
    obtain ⟨x1, xs1, e1, l1, g1⟩ := likeL.cons_inv (show likeL (_ :: _) _ from g0)
    obtain ⟨x2, xs2, e2, l2, g2⟩ := likeL.cons_inv (show likeL (_ :: _) _ from g1)
    obtain ⟨x3, xs3, e3, l3, g3⟩ := likeL.cons_inv (show likeL (_ :: _) _ from g2)
    obtain ⟨x4, xs4, e4, l4, g4⟩ := likeL.cons_inv (show likeL (_ :: _) _ from g3)
    obtain ⟨x5, xs5, e5, l5, g5⟩ := likeL.cons_inv (show likeL (_ :: _) _ from g4)
    obtain ⟨x6, xs6, e6, l6, g6⟩ := likeL.cons_inv (show likeL (_ :: _) _ from g5)
    have en := likeL.nil_inv (show likeL [] _ from g6)
    obtain ⟨a0, rfl⟩ := l0
    obtain ⟨a1, rfl⟩ := l1
    obtain ⟨a2, rfl⟩ := l2
    obtain ⟨a3, rfl⟩ := l3
    obtain ⟨q4, rfl, k4⟩ := l4
    obtain ⟨a4, rfl⟩ : ∃ l, q4 = .ints l := by cases q4 <;> first | exact ⟨_, rfl⟩ | (simp [Rw.kd] at k4; done)
    obtain ⟨a5, rfl⟩ := l5
    obtain ⟨a6, rfl⟩ := l6
    subst en
    subst e6
    subst e5
    subst e4
    subst e3
    subst e2
    subst e1
    exact ⟨⟨a0, a1, a2, a3, a4, a5, a6⟩, e0.symm⟩
  · refine build ([]) .intss (fun x => [.row .any (.ints x)]) (fun _ => rfl) (fun _ _ => rfl) (fun _ => rfl) fun i hi => ?_
    have hh : likeL _ (X i) := h i hi
    obtain ⟨x0, xs0, e0, l0, g0⟩ := likeL.cons_inv (show likeL (_ :: _) _ from hh)
    have en := likeL.nil_inv (show likeL [] _ from g0)
    obtain ⟨q0, rfl, k0⟩ := l0
    obtain ⟨a0, rfl⟩ : ∃ l, q0 = .ints l := by cases q0 <;> first | exact ⟨_, rfl⟩ | (simp [Rw.kd] at k0; done)
    subst en
    exact ⟨a0, e0.symm⟩
  · refine build (false) .bools (fun x => [.bool x]) (fun _ => rfl) (fun _ _ => rfl) (fun _ => rfl) fun i hi => ?_
    have hh : likeL _ (X i) := h i hi
    obtain ⟨x0, xs0, e0, l0, g0⟩ := likeL.cons_inv (show likeL (_ :: _) _ from hh)
    have en := likeL.nil_inv (show likeL [] _ from g0)
    obtain ⟨a0, rfl⟩ := l0
    subst en
    exact ⟨a0, e0.symm⟩
/-! ### Down -/
section
variable {H : Type} {enc : TypeId × Value → H} {P : Program} {τ : Tys} {W : World} {held : Bool}
theorem weights_agg {T : TypeId} {fs : Array Field} {parts : List (DataW H)} (hu : P.underlying T = some (.struct fs)) : DataW.weights P T (.agg parts) = DataW.weightsEach P (fs.toList.map (·.type)) parts := by simp [DataW.weights, hu]
theorem weights_all {e : TypeId} {l : List (DataW H)} {d : DataW H} (h : d ∈ l) : ∀ n ∈ d.weights P e, n ∈ DataW.weightsAll P e l := by
  induction l with
  | nil => simp at h
  | cons x l ih =>
    intro n hn
    simp only [DataW.weightsAll, List.mem_append]
    rcases List.mem_cons.1 h with rfl | h
    · exact .inl hn
    · exact .inr (ih h n hn)
theorem fitL_like {z y xs : List SV} (h : FitL z y) (hl : likeL z xs) : likeL y xs := by
  refine ⟨h.1.symm.trans hl.1, fun j c hc => ?_⟩
  obtain ⟨b, hb, hf⟩ := h.2 j c hc
  obtain ⟨x, hx, hlx⟩ := hl.2 j b hb
  refine ⟨x, hx, ?_⟩
  cases b <;> cases c <;> simp only [Fit] at hf <;> first
    | exact hf.elim
    | (obtain ⟨rfl, rfl⟩ := hf; exact hlx)
    | exact hlx
    | (obtain ⟨rfl, _⟩ := hf; exact hlx)
    | (simp [like] at hlx; done)
theorem sub_app {fs : List (Nat × TypeId)} {cs : List Value} (hz : ∀ F i, τ.ti F = some i → i.zero.length = i.sz) (hcell : ∀ (j : Nat) (o F : Nat) (i : TI), fs[j]? = some (o, F) → τ.ti F = some i → ∃ xs, likeL i.zero xs ∧ L0 (vd0 E0 [] W) xs ((cs.drop o).take i.sz)) :
    ∀ (l : List (Nat × TypeId)) (off : Nat) (zs : List SV), (∀ q ∈ l, ∃ j : Nat, fs[j]? = some q) → fldPat τ l off zs = true → zs.length + off = cs.length → ∃ xs, likeL zs xs ∧ L0 (vd0 E0 [] W) xs (cs.drop off)
  | [], off, zs, _, h, hl => by
    cases zs with
    | cons z zs => simp [fldPat] at h
    | nil => exact ⟨[], likeL.nil, by rw [List.drop_eq_nil_of_le (by simp at hl; omega)]; exact L0.nil⟩
  | (o, F) :: l, off, zs, hm, h, hl => by
    simp only [fldPat, Bool.and_eq_true] at h
    obtain ⟨h1, h2⟩ := h
    obtain rfl := Nat.eq_of_beq_eq_true h1
    split at h2
    · rename_i i hi
      simp only [Bool.and_eq_true] at h2
      obtain ⟨h3, h4⟩ := h2
      obtain ⟨j, hj⟩ := hm (o, F) (by simp)
      obtain ⟨xs, hx1, hx2⟩ := hcell j o F i hj hi
      have hlen : i.zero.length = (zs.take i.sz).length := by
        have : ∀ {a b : List SV}, samePatL a b = true → a.length = b.length := by
          intro a
          induction a with
          | nil => intro b hb; cases b <;> simp [samePatL] at hb ⊢
          | cons x a ih =>
            intro b hb
            cases b with
            | nil => simp [samePatL] at hb
            | cons y b => simp only [samePatL, Bool.and_eq_true] at hb; simp [ih hb.2]
        exact this h3
      have hzl : i.sz ≤ zs.length := by
        have e1 := hz F i hi
        simp at hlen
        omega
      obtain ⟨ys, hy1, hy2⟩ := sub_app hz hcell l (o + i.sz) (zs.drop i.sz) (fun q hq => hm q (by simp [hq])) h4 (by simp; omega)
      refine ⟨xs ++ ys, ?_, ?_⟩
      · have := (samePatL_like h3 hx1).append hy1
        rwa [List.take_append_drop] at this
      · have := hx2.append hy2
        rwa [← List.drop_drop, List.take_append_drop] at this
    · simp at h2
theorem addr_add_add (a : Addr) (i j : Nat) : (a.add i).add j = a.add (i + j) := by
  unfold Addr.add
  by_cases hi : i = 0 <;> by_cases hj : j = 0 <;> simp [hi, hj, Nat.add_assoc]
theorem cell_row_flat {r r' : Rw} {t t' : Tag} {i j : Nat} (h : (r.cell t i)[j]? = some (.row t' r')) : r'.flat = true := by
  have hm := List.mem_of_getElem? h
  cases r <;> simp [Rw.cell, GItem.cells, GPeer.cells, GTold.cells, GCut.cells, GMsg.cells, GNode.cells, GAct.cells] at hm
  · obtain ⟨_, rfl⟩ := hm; rfl
  · rcases hm with ⟨_, rfl⟩ | ⟨_, rfl⟩ | ⟨_, rfl⟩ | ⟨_, rfl⟩ <;> rfl
  · obtain ⟨_, rfl⟩ := hm; rfl
  · obtain ⟨_, rfl⟩ := hm; rfl
theorem trod_cells (hτ : TysOk P τ) : ∀ (m fuel : Nat) (T : TypeId) (i : TI) (cs : List Value) (x : DataW H × List MemPlace), readable τ m T = true → τ.ti T = some i →
    DataW.trod enc P W 0 (fun _ => true) held fuel T cs = some x → (∀ n ∈ x.1.weights P T, n ≤ reachBytes) → ∃ xs, likeL i.zero xs ∧ L0 (vd0 E0 [] W) xs cs := by
  have hz : ∀ F i, τ.ti F = some i → i.zero.length = i.sz := by
    intro F i hi
    obtain ⟨x, z, _, _, _, _, h5, h6⟩ := (hτ.ti F i hi).info
    have := (h6 E0 [] W).1
    simp at this
    omega
  have hcells : ∀ F i, τ.ti F = some i → P.cellsOf F = i.sz := by
    intro F i hi
    obtain ⟨x, z, h1, h2, _⟩ := (hτ.ti F i hi).info
    simp [Program.cellsOf, h1, h2]
  have hbytes : ∀ F i, τ.ti F = some i → P.bytesOf F = i.bytes := by
    intro F i hi
    obtain ⟨x, z, h1, _, h3, _⟩ := (hτ.ti F i hi).info
    simp [Program.bytesOf, h1, h3]
  intro m
  induction m with
  | zero => intro fuel T i cs x hr; simp [readable] at hr
  | succ m ih =>
    intro fuel T i cs x hr hi h hw
    obtain ⟨d, hu, hd⟩ := (hτ.ti T i hi).und
    simp only [readable, hi, Bool.and_eq_true] at hr
    obtain ⟨hp, hr⟩ := hr
    unfold patChk at hp
    split at hp
    · rename_i k k' n htd hzr
      rw [htd] at hd
      obtain rfl : d = _ := hd
      obtain ⟨m, rfl, _⟩ := DataW.trod_int hu h
      rw [hzr, ← sameK_eq hp]
      exact ⟨[.int k m], .cons ⟨m, rfl⟩ .nil, .cons rfl .nil⟩
    · rename_i b htd hzr
      rw [htd] at hd
      obtain rfl : d = _ := hd
      obtain ⟨m, rfl, _⟩ := DataW.trod_bool hu h
      rw [hzr]
      exact ⟨[.bool m], .cons ⟨m, rfl⟩ .nil, .cons rfl .nil⟩
    · rename_i b htd hzr
      rw [htd] at hd
      obtain rfl : d = _ := hd
      obtain ⟨m, rfl, _⟩ := DataW.trod_string hu h
      rw [hzr]
      exact ⟨[.str m], .cons ⟨m, rfl⟩ .nil, .cons rfl .nil⟩
    · rename_i e r htd hzr
      rw [htd] at hd
      obtain rfl : d = _ := hd
      split at hp
      · rename_i k hk
        obtain ⟨hk10, het, ie, hie, hsz, hby, hfit, hnr⟩ := hτ.rk e k hk
        have hrk := Nat.eq_of_beq_eq_true hp
        rw [hzr]
        rcases DataW.trod_slice hu h with ⟨rfl, _⟩ | ⟨a, len, cap, elems, rest, n, hfu, rfl, rfl, _, hl, hm, hlen, hel, _, _⟩
        · obtain ⟨r', h1, h2, _⟩ := mkLike k 0 hk10 (fun _ => []) fun i hi => absurd hi (Nat.not_lt_zero _)
          exact ⟨[.row .any r'], .cons ⟨r', rfl, h1.trans hrk.symm⟩ .nil, .cons (show RowDen W (E0.F W .any) r' (.slice none 0 0) from empty_row h2 _) .nil⟩
        · have hwt : ∀ y ∈ elems, ∀ n ∈ y.1.weights P e, n ≤ reachBytes := fun y hy n hn => hw n (by
            simp only [DataW.weights, hu, List.mem_cons, List.mem_append]
            exact .inr (.inl (weights_all (List.mem_map.2 ⟨y, hy, rfl⟩) n hn)))
          have hsize : len * ie.bytes ≤ 140737488355328 := by
            have := hw ((elems.length + rest.length) * P.bytesOf e) (by simp [DataW.weights, hu])
            rw [hbytes e ie hie, Nat.add_mul, hlen] at this
            have : len * ie.bytes ≤ reachBytes := by omega
            exact Nat.le_trans this (by decide)
          have hX : ∀ i, i < len → ∃ xs : List SV, likeL ie.zero xs ∧ ∃ cs', W.cells? 0 (a.add (i * P.cellsOf e)) (P.cellsOf e) = some cs' ∧ L0 (vd0 E0 [] W) xs cs' := by
            intro i hi
            have h1 := hel i hi
            rw [List.getElem?_eq_getElem (by omega)] at h1
            obtain ⟨cs', h2, h3⟩ := Option.bind_eq_some_iff.1 h1
            obtain ⟨xs, h4, h5⟩ := ih _ e ie cs' _ (by rw [htd] at hr; exact hr) hie h3 (hwt _ (List.getElem_mem _))
            exact ⟨xs, h4, cs', h2, h5⟩
          obtain ⟨X, hX⟩ : ∃ X : Nat → List SV, ∀ i, i < len → likeL ie.zero (X i) ∧ ∃ cs', W.cells? 0 (a.add (i * P.cellsOf e)) (P.cellsOf e) = some cs' ∧ L0 (vd0 E0 [] W) (X i) cs' :=
            ⟨fun i => if hi : i < len then Classical.choose (hX i hi) else [], fun i hi => by simp only [hi, dif_pos]; exact Classical.choose_spec (hX i hi)⟩
          obtain ⟨r', g1, g2, g3⟩ := mkLike k len hk10 X fun i hi => fitL_like hfit (hX i hi).1
          refine ⟨[.row .any r'], .cons ⟨r', rfl, g1.trans hrk.symm⟩ .nil, .cons ?_ .nil⟩
          have hrs : r'.sz = P.cellsOf e := by rw [hcells e ie hie, hsz]; simp [Rw.sz, g1]
          have hpos : 0 < P.cellsOf e := by rw [← hrs]; exact sz_pos r'
          refine ⟨by rw [g2]; simpa [Rw.bts, g1, ← hby] using hsize, some a, cap, by rw [g2], by rw [g2]; exact hl, fun h0 => ⟨a, rfl, ?_, E0_F _ rfl _, fun i j x hi hx => ?_⟩⟩
          · rw [g2] at h0
            obtain ⟨_, cs', h1, _⟩ := hX 0 h0
            obtain ⟨_, h2, h3⟩ := World.cells?_some h1
            have := h3 0 hpos
            rw [List.getElem?_eq_getElem (by omega)] at this
            have hsp := World.cell?_spot this
            simpa [Addr.add] using hsp
          · rw [g2] at hi
            rw [g3 i hi] at hx
            obtain ⟨hl1, cs', h1, h2⟩ := hX i hi
            obtain ⟨u, hu', hv⟩ := h2.2 j x hx
            obtain ⟨_, h4, h5⟩ := World.cells?_some h1
            have hj : j < P.cellsOf e := by rw [← h4]; exact (List.getElem?_eq_some_iff.1 hu').1
            refine ⟨u, ?_, ?_⟩
            · have := h5 j hj
              rw [hu', addr_add_add, ← hrs] at this
              exact this
            · rw [← g3 i hi] at hx
              cases x with
              | row t'' r'' =>
                have hlk := hl1.2 j
                have ht : t'' = .any := cell_retag .any r' i j _ hx t'' r'' rfl
                subst ht
                exact RowDen.flat hv (cell_row_flat hx)
              | int k n => exact hv
              | bool b => exact hv
              | lit b => exact hv
              | str b => exact hv
              | _ =>
                have := List.mem_of_getElem? hx
                cases r' <;> simp [Rw.cell, GItem.cells, GPeer.cells, GTold.cells, GCut.cells, GMsg.cells, GNode.cells, GAct.cells] at this
      · simp at hp
    · rename_i _ _ fs htd
      rw [htd] at hd
      obtain ⟨fa, rfl, hfa⟩ := hd
      simp only [Bool.and_eq_true] at hp
      obtain ⟨xs, n, hfu, rfl, hlen, hxs, hf⟩ := DataW.trod_struct hu h
      rw [hcells T i hi] at hlen
      have := sub_app (τ := τ) (W := W) (fs := fs) (cs := cs) hz ?_ fs 0 i.zero (fun q hq => List.mem_iff_getElem?.1 hq) hp.1 (by rw [Nat.eq_of_beq_eq_true hp.2, hlen]; rfl)
      · simpa using this
      · intro j o F iF hj hiF
        have hj' := hfa j
        rw [nth_eq, hj] at hj'
        obtain ⟨f, hfj, hfe⟩ := Option.map_eq_some_iff.1 hj'.symm
        simp only [Prod.mk.injEq] at hfe
        obtain ⟨rfl, rfl⟩ := hfe
        have h1 := hf j f hfj
        have hjx : j < xs.length := by rw [hxs]; exact (Array.getElem?_eq_some_iff.1 hfj).1
        rw [List.getElem?_eq_getElem hjx, hcells _ iF hiF] at h1
        refine ih _ f.type iF _ _ (by rw [htd] at hr; simp only [List.all_eq_true] at hr; exact hr (f.offset, f.type) (List.mem_of_getElem? hj)) hiF h1 fun n hn => hw n ?_
        rw [weights_agg hu]
        exact DataW.weights_mem_each (j := j) (t := f.type) (d := xs[j].1) (by simp [List.getElem?_map, hfj]) (by simp [hjx]) n hn
    · simp at hp
end
end Go.Proofs.Ytaapoiikbolgnaa

/- The arguments of a row: their shapes. -/
namespace Go.Proofs.Ytaapoiikbolgnaa
open Go.RowKit

theorem shapeNode {z xs : List SV} (hz : z = [.bool false, .int .i64 0, .nilS (mkEmpty 3), .nilS (mkEmpty 0), .nilS (mkEmpty 4), .nilS (mkEmpty 5)]) (h : likeL z xs) : ∃ m : GNode, SV.agg xs = dNode.e m := by
  subst hz
  obtain ⟨x0, xs0, e0, l0, g0⟩ := likeL.cons_inv (show likeL (_ :: _) _ from h)
  obtain ⟨x1, xs1, e1, l1, g1⟩ := likeL.cons_inv (show likeL (_ :: _) _ from g0)
  obtain ⟨x2, xs2, e2, l2, g2⟩ := likeL.cons_inv (show likeL (_ :: _) _ from g1)
  obtain ⟨x3, xs3, e3, l3, g3⟩ := likeL.cons_inv (show likeL (_ :: _) _ from g2)
  obtain ⟨x4, xs4, e4, l4, g4⟩ := likeL.cons_inv (show likeL (_ :: _) _ from g3)
  obtain ⟨x5, xs5, e5, l5, g5⟩ := likeL.cons_inv (show likeL (_ :: _) _ from g4)
  have en := likeL.nil_inv (show likeL [] _ from g5)
  obtain ⟨a0, rfl⟩ := l0
  obtain ⟨a1, rfl⟩ := l1
  obtain ⟨q2, rfl, k2⟩ := l2
  obtain ⟨a2, rfl⟩ : ∃ l, q2 = .peers l := by cases q2 <;> first | exact ⟨_, rfl⟩ | (simp [Rw.kd, mkEmpty] at k2; done)
  obtain ⟨q3, rfl, k3⟩ := l3
  obtain ⟨a3, rfl⟩ : ∃ l, q3 = .ints l := by cases q3 <;> first | exact ⟨_, rfl⟩ | (simp [Rw.kd, mkEmpty] at k3; done)
  obtain ⟨q4, rfl, k4⟩ := l4
  obtain ⟨a4, rfl⟩ : ∃ l, q4 = .items l := by cases q4 <;> first | exact ⟨_, rfl⟩ | (simp [Rw.kd, mkEmpty] at k4; done)
  obtain ⟨q5, rfl, k5⟩ := l5
  obtain ⟨a5, rfl⟩ : ∃ l, q5 = .tolds l := by cases q5 <;> first | exact ⟨_, rfl⟩ | (simp [Rw.kd, mkEmpty] at k5; done)
  subst en
  subst e5
  subst e4
  subst e3
  subst e2
  subst e1
  subst e0
  exact ⟨⟨a0, ⟨a1, a2, a3⟩, a4, a5⟩, rfl⟩
theorem shapeInts {z xs : List SV} (hz : z = [.nilS (mkEmpty 0)]) (h : likeL z xs) : ∃ l : List Int, xs = [dInts.e l] := by
  subst hz
  obtain ⟨x0, xs0, e0, l0, g0⟩ := likeL.cons_inv (show likeL (_ :: _) _ from h)
  have en := likeL.nil_inv (show likeL [] _ from g0)
  obtain ⟨q0, rfl, k0⟩ := l0
  obtain ⟨a0, rfl⟩ : ∃ l, q0 = .ints l := by cases q0 <;> first | exact ⟨_, rfl⟩ | (simp [Rw.kd, mkEmpty] at k0; done)
  subst en
  subst e0
  exact ⟨a0, rfl⟩
theorem agg_of {W : World} {z xs : List SV} {v : Value} (hz : 1 < z.length) (hl : likeL z xs) (h : L0 (vd0 E0 [] W) xs v.cells.toList) : vd3 E0 [] W (.agg xs) v := by
  have hlen : 1 < v.cells.toList.length := by rw [← h.1, ← hl.1]; exact hz
  cases v with
  | agg cs => exact ⟨cs.toList, by simp, (h.mono fun x u _ hp => old0_vd1 hp : L0 (vd1 E0 [] W) xs cs.toList)⟩
  | _ => simp [Value.cells] at hlen
theorem one_of {W : World} {x : SV} {A : Option Addr} {n c : Nat} (h : L0 (vd0 E0 [] W) [x] (Value.slice A n c).cells.toList) : vd3 E0 [] W x (.slice A n c) := by
  obtain ⟨u, us, e, h1, h2⟩ := h.inv_cons
  simp [Value.cells] at e
  rw [← e.1] at h1
  exact vd3_of_vd0 h1
end Go.Proofs.Ytaapoiikbolgnaa

/- The type table of the program, for the executor: written by wip/gen.py. -/
namespace Go.Proofs.Ytaapoiikbolgnaa
open Go.RowKit

def tauI : Tr TI := .node 32 (.node 22 (.node 5 (.node 3 (.leaf 2 (⟨.int .i64, 1, 8, [.int .i64 0]⟩)) (.node 4 (.leaf 3 (⟨.int .i64, 1, 8, [.int .i64 0]⟩)) (.leaf 4 (⟨.bool, 1, 1, [.bool false]⟩)))) (.node 12 (.node 9 (.leaf 5 (⟨.int .u8, 1, 1, [.int .u8 0]⟩)) (.leaf 9 (⟨.str, 1, 16, [.str ByteArray.empty]⟩))) (.node 21 (.leaf 12 (⟨.int .u64, 1, 8, [.int .u64 0]⟩)) (.leaf 21 (⟨.int .i32, 1, 4, [.int .i32 0]⟩))))) (.node 26 (.node 24 (.node 23 (.leaf 22 (⟨.slice 3, 1, 24, [.nilS (mkEmpty 0)]⟩)) (.leaf 23 (⟨.slice 56, 1, 24, [.nilS (mkEmpty 3)]⟩))) (.node 25 (.leaf 24 (⟨.struct [(0, 3), (1, 23), (2, 22)], 3, 56, [.int .i64 0, .nilS (mkEmpty 3), .nilS (mkEmpty 0)]⟩)) (.leaf 25 (⟨.struct [(0, 3), (1, 23), (2, 22)], 3, 56, [.int .i64 0, .nilS (mkEmpty 3), .nilS (mkEmpty 0)]⟩)))) (.node 28 (.node 27 (.leaf 26 (⟨.slice 49, 1, 24, [.nilS (mkEmpty 4)]⟩)) (.leaf 27 (⟨.slice 52, 1, 24, [.nilS (mkEmpty 5)]⟩))) (.node 29 (.leaf 28 (⟨.struct [(0, 4), (1, 25), (4, 26), (5, 27)], 6, 112, [.bool false, .int .i64 0, .nilS (mkEmpty 3), .nilS (mkEmpty 0), .nilS (mkEmpty 4), .nilS (mkEmpty 5)]⟩)) (.leaf 29 (⟨.struct [(0, 4), (1, 25), (4, 26), (5, 27)], 6, 112, [.bool false, .int .i64 0, .nilS (mkEmpty 3), .nilS (mkEmpty 0), .nilS (mkEmpty 4), .nilS (mkEmpty 5)]⟩)))))) (.node 52 (.node 47 (.node 45 (.leaf 32 (⟨.int .i64, 1, 8, [.int .i64 0]⟩)) (.node 46 (.leaf 45 (⟨.int .u64, 1, 8, [.int .u64 0]⟩)) (.leaf 46 (⟨.struct [(0, 3), (1, 3)], 2, 16, [.int .i64 0, .int .i64 0]⟩)))) (.node 49 (.node 48 (.leaf 47 (⟨.struct [(0, 3), (1, 3)], 2, 16, [.int .i64 0, .int .i64 0]⟩)) (.leaf 48 (⟨.struct [(0, 3), (1, 47), (3, 3), (4, 4)], 5, 40, [.int .i64 0, .int .i64 0, .int .i64 0, .int .i64 0, .bool false]⟩))) (.node 51 (.leaf 49 (⟨.struct [(0, 3), (1, 47), (3, 3), (4, 4)], 5, 40, [.int .i64 0, .int .i64 0, .int .i64 0, .int .i64 0, .bool false]⟩)) (.leaf 51 (⟨.struct [(0, 3), (1, 4), (2, 3)], 3, 24, [.int .i64 0, .bool false, .int .i64 0]⟩))))) (.node 101 (.node 56 (.node 55 (.leaf 52 (⟨.struct [(0, 3), (1, 4), (2, 3)], 3, 24, [.int .i64 0, .bool false, .int .i64 0]⟩)) (.leaf 55 (⟨.struct [(0, 3), (1, 3)], 2, 16, [.int .i64 0, .int .i64 0]⟩))) (.node 66 (.leaf 56 (⟨.struct [(0, 3), (1, 3)], 2, 16, [.int .i64 0, .int .i64 0]⟩)) (.leaf 66 (⟨.arr 256 4, 256, 256, flatZeros [.bool false] 256⟩)))) (.node 110 (.node 109 (.leaf 101 (⟨.slice 22, 1, 24, [.nilS (mkEmpty 10)]⟩)) (.leaf 109 (⟨.struct [(0, 3)], 1, 8, [.int .i64 0]⟩))) (.node 119 (.leaf 110 (⟨.struct [(0, 3)], 1, 8, [.int .i64 0]⟩)) (.leaf 119 (⟨.int .u32, 1, 4, [.int .u32 0]⟩))))))
def tauK : Tr Nat := .node 29 (.node 9 (.node 5 (.leaf 3 (0)) (.leaf 5 (1))) (.node 22 (.leaf 9 (2)) (.leaf 22 (10)))) (.node 52 (.node 49 (.leaf 29 (8)) (.leaf 49 (4))) (.node 56 (.leaf 52 (5)) (.leaf 56 (3))))
def tauE : Tr Nat := .node 4 (.node 2 (.node 1 (.leaf 0 (3)) (.leaf 1 (5))) (.node 3 (.leaf 2 (9)) (.leaf 3 (56)))) (.node 8 (.node 5 (.leaf 4 (49)) (.leaf 5 (52))) (.node 10 (.leaf 8 (29)) (.node 11 (.leaf 10 (22)) (.leaf 11 (66)))))
def tauS : Tr (List Nat) := .node 52 (.node 49 (.leaf 47 ([0, 0])) (.leaf 49 ([0, 0, 0, 0, 1]))) (.node 56 (.leaf 52 ([0, 1, 0])) (.node 110 (.leaf 56 ([0, 0])) (.leaf 110 ([0]))))
def tau : Tys := mkTys tauI tauK tauE tauS
theorem eqv47 (n : Nat) (x0 y0 : Int) (x1 y1 : Int) (w : World) : (Op.equalIn (n + 2) 47 (.agg #[.int .i64 x0, .int .i64 x1]) (.agg #[.int .i64 y0, .int .i64 y1])).run Try.prog w = .ok (decide (x0 = y0) && (decide (x1 = y1))) w := by
  have u3 := Try.underlying3; have a3 := Try.isAgg3; have z3 := Try.sizeOf3
  have hS : Try.prog.underlying 47 = some (.struct (Try.prog.fieldsOf 47)) := by kernel_rfl
  have hp : Try.prog.stoodInHeld 47 = false := by kernel_rfl
  rw [run_equalIn_agg w (n + 1) 47 _ _ hS hp]
  simp only [Program.fieldsOf, Try.underlying47]
  go_simp
  by_cases h0 : x0 = y0 <;> by_cases h1 : x1 = y1 <;> simp [h0, h1]
theorem eqk47 : EqOk Try.prog 47 [0, 0] := by
  intro E R w a b us vs e g0 ha0 hb0
  obtain ⟨x0, y0, a0, b0, e0, rfl, rfl, g1, rfl⟩ := eqCells_int g0
  obtain ⟨_, us0, rfl, rfl, ha1⟩ := ha0.inv_cons
  obtain ⟨_, vs0, rfl, rfl, hb1⟩ := hb0.inv_cons
  obtain ⟨x1, y1, a1, b1, e1, rfl, rfl, g2, rfl⟩ := eqCells_int g1
  obtain ⟨_, us1, rfl, rfl, ha2⟩ := ha1.inv_cons
  obtain ⟨_, vs1, rfl, rfl, hb2⟩ := hb1.inv_cons
  obtain ⟨rfl, rfl, rfl⟩ := eqCells_nil g2
  obtain rfl := ha2.inv_nil
  obtain rfl := hb2.inv_nil
  refine ⟨fun op x y => run_eqGuard_agg w op 47 x y _ _ (by kernel_rfl), ?_⟩
  have := eqv47 9998 x0 y0 x1 y1 w
  simpa [Op.equal, Op.maxDepth] using this
theorem eqv49 (n : Nat) (x0 y0 : Int) (x1 y1 : Int) (x2 y2 : Int) (x3 y3 : Int) (x4 y4 : Bool) (w : World) : (Op.equalIn (n + 3) 49 (.agg #[.int .i64 x0, .int .i64 x1, .int .i64 x2, .int .i64 x3, .bool x4]) (.agg #[.int .i64 y0, .int .i64 y1, .int .i64 y2, .int .i64 y3, .bool y4])).run Try.prog w = .ok (decide (x0 = y0) && (decide (x1 = y1) && (decide (x2 = y2) && (decide (x3 = y3) && ((x4 == y4)))))) w := by
  have u3 := Try.underlying3; have a3 := Try.isAgg3; have z3 := Try.sizeOf3
  have u4 := Try.underlying4; have a4 := Try.isAgg4; have z4 := Try.sizeOf4
  have u47 := Try.underlying47; have a47 := Try.isAgg47; have z47 := Try.sizeOf47
  have q47 : ∀ (x0 y0 : Int) (x1 y1 : Int) (w : World), (Op.equalIn (n + 2) 47 (.agg #[.int .i64 x0, .int .i64 x1]) (.agg #[.int .i64 y0, .int .i64 y1])).run Try.prog w = .ok (decide (x0 = y0) && (decide (x1 = y1))) w := eqv47 n
  have hS : Try.prog.underlying 49 = some (.struct (Try.prog.fieldsOf 49)) := by kernel_rfl
  have hp : Try.prog.stoodInHeld 49 = false := by kernel_rfl
  rw [run_equalIn_agg w (n + 2) 49 _ _ hS hp]
  simp only [Program.fieldsOf, Try.underlying49]
  go_simp
  by_cases h0 : x0 = y0 <;> by_cases h1 : x1 = y1 <;> by_cases h2 : x2 = y2 <;> by_cases h3 : x3 = y3 <;> by_cases h4 : x4 = y4 <;> simp [h0, h1, h2, h3, h4]
theorem eqk49 : EqOk Try.prog 49 [0, 0, 0, 0, 1] := by
  intro E R w a b us vs e g0 ha0 hb0
  obtain ⟨x0, y0, a0, b0, e0, rfl, rfl, g1, rfl⟩ := eqCells_int g0
  obtain ⟨_, us0, rfl, rfl, ha1⟩ := ha0.inv_cons
  obtain ⟨_, vs0, rfl, rfl, hb1⟩ := hb0.inv_cons
  obtain ⟨x1, y1, a1, b1, e1, rfl, rfl, g2, rfl⟩ := eqCells_int g1
  obtain ⟨_, us1, rfl, rfl, ha2⟩ := ha1.inv_cons
  obtain ⟨_, vs1, rfl, rfl, hb2⟩ := hb1.inv_cons
  obtain ⟨x2, y2, a2, b2, e2, rfl, rfl, g3, rfl⟩ := eqCells_int g2
  obtain ⟨_, us2, rfl, rfl, ha3⟩ := ha2.inv_cons
  obtain ⟨_, vs2, rfl, rfl, hb3⟩ := hb2.inv_cons
  obtain ⟨x3, y3, a3, b3, e3, rfl, rfl, g4, rfl⟩ := eqCells_int g3
  obtain ⟨_, us3, rfl, rfl, ha4⟩ := ha3.inv_cons
  obtain ⟨_, vs3, rfl, rfl, hb4⟩ := hb3.inv_cons
  obtain ⟨sx4, sy4, x4, y4, a4, b4, e4, rfl, rfl, hx4, hy4, g5, rfl⟩ := eqCells_bool g4
  obtain ⟨_, us4, rfl, hu4, ha5⟩ := ha4.inv_cons
  obtain ⟨_, vs4, rfl, hv4, hb5⟩ := hb4.inv_cons
  obtain rfl := asBool_vd hx4 (vd_of_vd1 hu4)
  obtain rfl := asBool_vd hy4 (vd_of_vd1 hv4)
  obtain ⟨rfl, rfl, rfl⟩ := eqCells_nil g5
  obtain rfl := ha5.inv_nil
  obtain rfl := hb5.inv_nil
  refine ⟨fun op x y => run_eqGuard_agg w op 49 x y _ _ (by kernel_rfl), ?_⟩
  have := eqv49 9997 x0 y0 x1 y1 x2 y2 x3 y3 x4 y4 w
  simpa [Op.equal, Op.maxDepth] using this
theorem eqv52 (n : Nat) (x0 y0 : Int) (x1 y1 : Bool) (x2 y2 : Int) (w : World) : (Op.equalIn (n + 2) 52 (.agg #[.int .i64 x0, .bool x1, .int .i64 x2]) (.agg #[.int .i64 y0, .bool y1, .int .i64 y2])).run Try.prog w = .ok (decide (x0 = y0) && ((x1 == y1) && (decide (x2 = y2)))) w := by
  have u3 := Try.underlying3; have a3 := Try.isAgg3; have z3 := Try.sizeOf3
  have u4 := Try.underlying4; have a4 := Try.isAgg4; have z4 := Try.sizeOf4
  have hS : Try.prog.underlying 52 = some (.struct (Try.prog.fieldsOf 52)) := by kernel_rfl
  have hp : Try.prog.stoodInHeld 52 = false := by kernel_rfl
  rw [run_equalIn_agg w (n + 1) 52 _ _ hS hp]
  simp only [Program.fieldsOf, Try.underlying52]
  go_simp
  by_cases h0 : x0 = y0 <;> by_cases h1 : x1 = y1 <;> by_cases h2 : x2 = y2 <;> simp [h0, h1, h2]
theorem eqk52 : EqOk Try.prog 52 [0, 1, 0] := by
  intro E R w a b us vs e g0 ha0 hb0
  obtain ⟨x0, y0, a0, b0, e0, rfl, rfl, g1, rfl⟩ := eqCells_int g0
  obtain ⟨_, us0, rfl, rfl, ha1⟩ := ha0.inv_cons
  obtain ⟨_, vs0, rfl, rfl, hb1⟩ := hb0.inv_cons
  obtain ⟨sx1, sy1, x1, y1, a1, b1, e1, rfl, rfl, hx1, hy1, g2, rfl⟩ := eqCells_bool g1
  obtain ⟨_, us1, rfl, hu1, ha2⟩ := ha1.inv_cons
  obtain ⟨_, vs1, rfl, hv1, hb2⟩ := hb1.inv_cons
  obtain rfl := asBool_vd hx1 (vd_of_vd1 hu1)
  obtain rfl := asBool_vd hy1 (vd_of_vd1 hv1)
  obtain ⟨x2, y2, a2, b2, e2, rfl, rfl, g3, rfl⟩ := eqCells_int g2
  obtain ⟨_, us2, rfl, rfl, ha3⟩ := ha2.inv_cons
  obtain ⟨_, vs2, rfl, rfl, hb3⟩ := hb2.inv_cons
  obtain ⟨rfl, rfl, rfl⟩ := eqCells_nil g3
  obtain rfl := ha3.inv_nil
  obtain rfl := hb3.inv_nil
  refine ⟨fun op x y => run_eqGuard_agg w op 52 x y _ _ (by kernel_rfl), ?_⟩
  have := eqv52 9998 x0 y0 x1 y1 x2 y2 w
  simpa [Op.equal, Op.maxDepth] using this
theorem eqv56 (n : Nat) (x0 y0 : Int) (x1 y1 : Int) (w : World) : (Op.equalIn (n + 2) 56 (.agg #[.int .i64 x0, .int .i64 x1]) (.agg #[.int .i64 y0, .int .i64 y1])).run Try.prog w = .ok (decide (x0 = y0) && (decide (x1 = y1))) w := by
  have u3 := Try.underlying3; have a3 := Try.isAgg3; have z3 := Try.sizeOf3
  have hS : Try.prog.underlying 56 = some (.struct (Try.prog.fieldsOf 56)) := by kernel_rfl
  have hp : Try.prog.stoodInHeld 56 = false := by kernel_rfl
  rw [run_equalIn_agg w (n + 1) 56 _ _ hS hp]
  simp only [Program.fieldsOf, Try.underlying56]
  go_simp
  by_cases h0 : x0 = y0 <;> by_cases h1 : x1 = y1 <;> simp [h0, h1]
theorem eqk56 : EqOk Try.prog 56 [0, 0] := by
  intro E R w a b us vs e g0 ha0 hb0
  obtain ⟨x0, y0, a0, b0, e0, rfl, rfl, g1, rfl⟩ := eqCells_int g0
  obtain ⟨_, us0, rfl, rfl, ha1⟩ := ha0.inv_cons
  obtain ⟨_, vs0, rfl, rfl, hb1⟩ := hb0.inv_cons
  obtain ⟨x1, y1, a1, b1, e1, rfl, rfl, g2, rfl⟩ := eqCells_int g1
  obtain ⟨_, us1, rfl, rfl, ha2⟩ := ha1.inv_cons
  obtain ⟨_, vs1, rfl, rfl, hb2⟩ := hb1.inv_cons
  obtain ⟨rfl, rfl, rfl⟩ := eqCells_nil g2
  obtain rfl := ha2.inv_nil
  obtain rfl := hb2.inv_nil
  refine ⟨fun op x y => run_eqGuard_agg w op 56 x y _ _ (by kernel_rfl), ?_⟩
  have := eqv56 9998 x0 y0 x1 y1 w
  simpa [Op.equal, Op.maxDepth] using this
theorem eqv110 (n : Nat) (x0 y0 : Int) (w : World) : (Op.equalIn (n + 2) 110 (.agg #[.int .i64 x0]) (.agg #[.int .i64 y0])).run Try.prog w = .ok (decide (x0 = y0)) w := by
  have u3 := Try.underlying3; have a3 := Try.isAgg3; have z3 := Try.sizeOf3
  have hS : Try.prog.underlying 110 = some (.struct (Try.prog.fieldsOf 110)) := by kernel_rfl
  have hp : Try.prog.stoodInHeld 110 = false := by kernel_rfl
  rw [run_equalIn_agg w (n + 1) 110 _ _ hS hp]
  simp only [Program.fieldsOf, Try.underlying110]
  go_simp
  by_cases h0 : x0 = y0 <;> simp [h0]
theorem eqk110 : EqOk Try.prog 110 [0] := by
  intro E R w a b us vs e g0 ha0 hb0
  obtain ⟨x0, y0, a0, b0, e0, rfl, rfl, g1, rfl⟩ := eqCells_int g0
  obtain ⟨_, us0, rfl, rfl, ha1⟩ := ha0.inv_cons
  obtain ⟨_, vs0, rfl, rfl, hb1⟩ := hb0.inv_cons
  obtain ⟨rfl, rfl, rfl⟩ := eqCells_nil g1
  obtain rfl := ha1.inv_nil
  obtain rfl := hb1.inv_nil
  refine ⟨fun op x y => run_eqGuard_agg w op 110 x y _ _ (by kernel_rfl), ?_⟩
  have := eqv110 9998 x0 y0 w
  simpa [Op.equal, Op.maxDepth] using this
theorem tauS_ok : ∀ T sh, tauS.get T = some sh → EqOk Try.prog T sh := by
  intro T sh h
  have hk : tauS.all (fun T sh => ((Nat.beq T 47 && sh == [0, 0]) || ((Nat.beq T 49 && sh == [0, 0, 0, 0, 1]) || ((Nat.beq T 52 && sh == [0, 1, 0]) || ((Nat.beq T 56 && sh == [0, 0]) || (Nat.beq T 110 && sh == [0])))))) = true := by decide
  have := Tr.get_all hk T sh h
  simp only [Bool.or_eq_true, Bool.and_eq_true, beq_iff_eq] at this
  rcases this with h | h | h | h | h
  · obtain ⟨g, rfl⟩ := h; obtain rfl := Nat.eq_of_beq_eq_true g; exact eqk47
  · obtain ⟨g, rfl⟩ := h; obtain rfl := Nat.eq_of_beq_eq_true g; exact eqk49
  · obtain ⟨g, rfl⟩ := h; obtain rfl := Nat.eq_of_beq_eq_true g; exact eqk52
  · obtain ⟨g, rfl⟩ := h; obtain rfl := Nat.eq_of_beq_eq_true g; exact eqk56
  · obtain ⟨g, rfl⟩ := h; obtain rfl := Nat.eq_of_beq_eq_true g; exact eqk110
theorem tau_ok : TysOk Try.prog tau := tys_ok (by kernel_rfl) (by kernel_rfl) tauS_ok
end Go.Proofs.Ytaapoiikbolgnaa

/- Contracts: ring, version, item, msg. -/
namespace Go.Proofs.Ytaapoiikbolgnaa
open Go.RowKit
set_option maxRecDepth 20000

theorem hmix : Try.prog.follows .mixedOrders = true := by kernel_rfl
def placeB (x : Int) : Bool := decide (0 ≤ x) && decide (x < 256)
def okB (b : Bool) : Out := .ok (.bool b) []
theorem all_take_succ {α : Type} {p : α → Prop} {l : List α} {i : Nat} {d : α} (hi : i < l.length) (h : ∀ x ∈ l.take i, p x) (hx : p (l.getD i d)) : ∀ x ∈ l.take (i + 1), p x := by
  intro x hm
  rw [List.take_succ_eq_append_getElem hi] at hm
  rcases List.mem_append.1 hm with hm | hm
  · exact h x hm
  · simp at hm
    subst hm
    simpa [List.getD_eq_getElem?_getD, hi] using hx
theorem getD_mem {α : Type} {l : List α} {i : Nat} {d : α} (hi : i < l.length) : l.getD i d ∈ l := by
  simp [List.getD_eq_getElem?_getD, hi]
theorem k_Place : Known Try.prog tau 36 (S1 dInt fun x => okB (placeB x)) := by
  refine known1 hmix tau_ok ctx_nil (fn := Try.f36) (by kernel_rfl) [] (by kernel_rfl) _ _ fun x hfit => ⟨rfl, [], ?_⟩
  (repeat' (first | ((with_reducible refine BdI ?_); (first | ((with_reducible refine SqI ?_ (fun Kv hN hX hR => ?_)); (next => exact rfl)) | ((with_reducible refine JnI ?_ ?_); (next => exact rfl)) | (conv => whnf))) | (with_reducible first | refine BdS (fun Kv hN hX hR => ?_) | refine Stop.mk ?_ | refine Join.mk ⟨fun Kv hN hX hR => ?_, ?_⟩ | refine DrawJ.each ?_ | exact SubJ.self _) | with_reducible refine SubJ.of ?_ | (with_reducible first | refine FlS (fun Kf hF => ?_) | refine FlN ?_ | refine NdS (fun Kg hG => ?_) | (refine hF _ _ ?_; clear hF; clear Kf) | (refine hG _ _ _ _ ?_; clear hG; clear Kg)) | ((with_reducible refine SqI ?_ (fun Kv hN hX hR => ?_)); (next => exact rfl)) | ((with_reducible refine JnI ?_ ?_); (next => exact rfl)) | ((with_reducible first | refine hN _ ?_ | refine hX _ _ ?_ | refine hR _ ?_); (try (clear hG; clear Kg)); clear hN hX hR; clear Kv) | ((conv => whnf); first | (with_reducible first | rfl | exact True.intro | intro _ | refine And.intro ?_ ?_) | ((with_reducible first | refine hN _ ?_ | refine hX _ _ ?_ | refine hR _ ?_); (try (clear hG; clear Kg)); clear hN hX hR; clear Kv) | (with_reducible first | refine BdS (fun Kv hN hX hR => ?_) | refine Stop.mk ?_ | refine Join.mk ⟨fun Kv hN hX hR => ?_, ?_⟩ | refine DrawJ.each ?_ | exact SubJ.self _) | with_reducible refine SubJ.of ?_ | (with_reducible first | refine FlS (fun Kf hF => ?_) | refine FlN ?_ | refine NdS (fun Kg hG => ?_) | (refine hF _ _ ?_; clear hF; clear Kf) | (refine hG _ _ _ _ ?_; clear hG; clear Kg))))); all_goals (conv => whnf); all_goals (repeat ((try (clear hG; clear Kg)); clear hN hX hR; clear Kv))
  all_goals simp_all [placeB]
  all_goals omega
theorem k_Places : Known Try.prog tau 37 (S1 dInts fun l => okB (l.all placeB)) := by
  refine known1 hmix tau_ok (ctx_cons k_Place ctx_nil) (fn := Try.f37) (by kernel_rfl) [] (by kernel_rfl) _ _ fun xs hfit => ⟨rfl,
    [(2, invN [4, 7, 8, 9, 10, 11, 12, 13, 14] (fun i => i ≤ xs.length ∧ ∀ x ∈ xs.take i, placeB x = true) (fun i => withS [(7, .int .i64 i)]) (fun i => xs.length - i))], ?_⟩
  have hlen : xs.length * 8 ≤ 140737488355328 := hfit.1
  clear hfit
  (repeat' (first | ((with_reducible refine BdI ?_); (first | ((with_reducible refine SqI ?_ (fun Kv hN hX hR => ?_)); (next => exact rfl)) | ((with_reducible refine JnI ?_ ?_); (next => exact rfl)) | (conv => whnf))) | (with_reducible first | refine BdS (fun Kv hN hX hR => ?_) | refine Stop.mk ?_ | refine Join.mk ⟨fun Kv hN hX hR => ?_, ?_⟩ | refine DrawJ.each ?_ | exact SubJ.self _) | with_reducible refine SubJ.of ?_ | (with_reducible first | refine FlS (fun Kf hF => ?_) | refine FlN ?_ | refine NdS (fun Kg hG => ?_) | (refine hF _ _ ?_; clear hF; clear Kf) | (refine hG _ _ _ _ ?_; clear hG; clear Kg)) | ((with_reducible refine SqI ?_ (fun Kv hN hX hR => ?_)); (next => exact rfl)) | ((with_reducible refine JnI ?_ ?_); (next => exact rfl)) | ((with_reducible first | refine hN _ ?_ | refine hX _ _ ?_ | refine hR _ ?_); (try (clear hG; clear Kg)); clear hN hX hR; clear Kv) | ((conv => whnf); first | (with_reducible first | rfl | exact True.intro | intro _ | refine And.intro ?_ ?_) | ((with_reducible first | refine hN _ ?_ | refine hX _ _ ?_ | refine hR _ ?_); (try (clear hG; clear Kg)); clear hN hX hR; clear Kv) | (with_reducible first | refine BdS (fun Kv hN hX hR => ?_) | refine Stop.mk ?_ | refine Join.mk ⟨fun Kv hN hX hR => ?_, ?_⟩ | refine DrawJ.each ?_ | exact SubJ.self _) | with_reducible refine SubJ.of ?_ | (with_reducible first | refine FlS (fun Kf hF => ?_) | refine FlN ?_ | refine NdS (fun Kg hG => ?_) | (refine hF _ _ ?_; clear hF; clear Kf) | (refine hG _ _ _ _ ?_; clear hG; clear Kg))))); all_goals (conv => whnf); all_goals (repeat ((try (clear hG; clear Kg)); clear hN hX hR; clear Kv))
  · refine ⟨0, ⟨by omega, by simp⟩, ?_⟩
    (repeat' (first | ((with_reducible refine BdI ?_); (first | ((with_reducible refine SqI ?_ (fun Kv hN hX hR => ?_)); (next => exact rfl)) | ((with_reducible refine JnI ?_ ?_); (next => exact rfl)) | (conv => whnf))) | (with_reducible first | refine BdS (fun Kv hN hX hR => ?_) | refine Stop.mk ?_ | refine Join.mk ⟨fun Kv hN hX hR => ?_, ?_⟩ | refine DrawJ.each ?_ | exact SubJ.self _) | with_reducible refine SubJ.of ?_ | (with_reducible first | refine FlS (fun Kf hF => ?_) | refine FlN ?_ | refine NdS (fun Kg hG => ?_) | (refine hF _ _ ?_; clear hF; clear Kf) | (refine hG _ _ _ _ ?_; clear hG; clear Kg)) | ((with_reducible refine SqI ?_ (fun Kv hN hX hR => ?_)); (next => exact rfl)) | ((with_reducible refine JnI ?_ ?_); (next => exact rfl)) | ((with_reducible first | refine hN _ ?_ | refine hX _ _ ?_ | refine hR _ ?_); (try (clear hG; clear Kg)); clear hN hX hR; clear Kv) | ((conv => whnf); first | (with_reducible first | rfl | exact True.intro | intro _ | refine And.intro ?_ ?_) | ((with_reducible first | refine hN _ ?_ | refine hX _ _ ?_ | refine hR _ ?_); (try (clear hG; clear Kg)); clear hN hX hR; clear Kv) | (with_reducible first | refine BdS (fun Kv hN hX hR => ?_) | refine Stop.mk ?_ | refine Join.mk ⟨fun Kv hN hX hR => ?_, ?_⟩ | refine DrawJ.each ?_ | exact SubJ.self _) | with_reducible refine SubJ.of ?_ | (with_reducible first | refine FlS (fun Kf hF => ?_) | refine FlN ?_ | refine NdS (fun Kg hG => ?_) | (refine hF _ _ ?_; clear hF; clear Kf) | (refine hG _ _ _ _ ?_; clear hG; clear Kg))))); all_goals (conv => whnf); all_goals (repeat ((try (clear hG; clear Kg)); clear hN hX hR; clear Kv))
    all_goals rfl
  · rename_i i hi h
    simp at h
    exact Ob.mk ⟨by omega, by simpa using h⟩
  · rename_i i hi h1 h2 h3
    simp at h2
    simp at h3
    refine Eq.symm (List.all_eq_false.2 ⟨_, getD_mem (d := 0) h2, by simpa using h3⟩)
  · rename_i i hi h1 h2 h3
    simp at h2
    simp at h3
    refine ⟨i + 1, ⟨h2, all_take_succ h2 hi.2 h3⟩, by show xs.length - (i + 1) < xs.length - i; omega, ?_⟩
    (repeat' (first | ((with_reducible refine BdI ?_); (first | ((with_reducible refine SqI ?_ (fun Kv hN hX hR => ?_)); (next => exact rfl)) | ((with_reducible refine JnI ?_ ?_); (next => exact rfl)) | (conv => whnf))) | (with_reducible first | refine BdS (fun Kv hN hX hR => ?_) | refine Stop.mk ?_ | refine Join.mk ⟨fun Kv hN hX hR => ?_, ?_⟩ | refine DrawJ.each ?_ | exact SubJ.self _) | with_reducible refine SubJ.of ?_ | (with_reducible first | refine FlS (fun Kf hF => ?_) | refine FlN ?_ | refine NdS (fun Kg hG => ?_) | (refine hF _ _ ?_; clear hF; clear Kf) | (refine hG _ _ _ _ ?_; clear hG; clear Kg)) | ((with_reducible refine SqI ?_ (fun Kv hN hX hR => ?_)); (next => exact rfl)) | ((with_reducible refine JnI ?_ ?_); (next => exact rfl)) | ((with_reducible first | refine hN _ ?_ | refine hX _ _ ?_ | refine hR _ ?_); (try (clear hG; clear Kg)); clear hN hX hR; clear Kv) | ((conv => whnf); first | (with_reducible first | rfl | exact True.intro | intro _ | refine And.intro ?_ ?_) | ((with_reducible first | refine hN _ ?_ | refine hX _ _ ?_ | refine hR _ ?_); (try (clear hG; clear Kg)); clear hN hX hR; clear Kv) | (with_reducible first | refine BdS (fun Kv hN hX hR => ?_) | refine Stop.mk ?_ | refine Join.mk ⟨fun Kv hN hX hR => ?_, ?_⟩ | refine DrawJ.each ?_ | exact SubJ.self _) | with_reducible refine SubJ.of ?_ | (with_reducible first | refine FlS (fun Kf hF => ?_) | refine FlN ?_ | refine NdS (fun Kg hG => ?_) | (refine hF _ _ ?_; clear hF; clear Kf) | (refine hG _ _ _ _ ?_; clear hG; clear Kg))))); all_goals (conv => whnf); all_goals (repeat ((try (clear hG; clear Kg)); clear hN hX hR; clear Kv))
    exact wrapI (by omega) (by omega)
  · rename_i i hi h1
    simp at h1
    obtain ⟨h2, h3⟩ := hi
    rw [List.take_of_length_le h1] at h3
    exact Eq.symm (List.all_eq_true.2 h3)
def verB (v : GVer) : Bool := decide (1 ≤ v.count) && (decide (v.count ≤ 65535) && placeB v.writer)
def itemB (i : GItem) : Bool := placeB i.key && (placeB i.value && (verB i.ver && (!i.gone || decide (i.value = 0))))
theorem k_Byte : Known Try.prog tau 71 (S1 dInt fun x => okB (placeB x)) := by
  refine known1 hmix tau_ok ctx_nil (fn := Try.f71) (by kernel_rfl) [] (by kernel_rfl) _ _ fun x hfit => ⟨rfl, [], ?_⟩
  (repeat' (first | ((with_reducible refine BdI ?_); (first | ((with_reducible refine SqI ?_ (fun Kv hN hX hR => ?_)); (next => exact rfl)) | ((with_reducible refine JnI ?_ ?_); (next => exact rfl)) | (conv => whnf))) | (with_reducible first | refine BdS (fun Kv hN hX hR => ?_) | refine Stop.mk ?_ | refine Join.mk ⟨fun Kv hN hX hR => ?_, ?_⟩ | refine DrawJ.each ?_ | exact SubJ.self _) | with_reducible refine SubJ.of ?_ | (with_reducible first | refine FlS (fun Kf hF => ?_) | refine FlN ?_ | refine NdS (fun Kg hG => ?_) | (refine hF _ _ ?_; clear hF; clear Kf) | (refine hG _ _ _ _ ?_; clear hG; clear Kg)) | ((with_reducible refine SqI ?_ (fun Kv hN hX hR => ?_)); (next => exact rfl)) | ((with_reducible refine JnI ?_ ?_); (next => exact rfl)) | ((with_reducible first | refine hN _ ?_ | refine hX _ _ ?_ | refine hR _ ?_); (try (clear hG; clear Kg)); clear hN hX hR; clear Kv) | ((conv => whnf); first | (with_reducible first | rfl | exact True.intro | intro _ | refine And.intro ?_ ?_) | ((with_reducible first | refine hN _ ?_ | refine hX _ _ ?_ | refine hR _ ?_); (try (clear hG; clear Kg)); clear hN hX hR; clear Kv) | (with_reducible first | refine BdS (fun Kv hN hX hR => ?_) | refine Stop.mk ?_ | refine Join.mk ⟨fun Kv hN hX hR => ?_, ?_⟩ | refine DrawJ.each ?_ | exact SubJ.self _) | with_reducible refine SubJ.of ?_ | (with_reducible first | refine FlS (fun Kf hF => ?_) | refine FlN ?_ | refine NdS (fun Kg hG => ?_) | (refine hF _ _ ?_; clear hF; clear Kf) | (refine hG _ _ _ _ ?_; clear hG; clear Kg))))); all_goals (conv => whnf); all_goals (repeat ((try (clear hG; clear Kg)); clear hN hX hR; clear Kv))
  all_goals simp_all [placeB]
  all_goals omega
theorem k_VerMay : Known Try.prog tau 84 (S1 dVer fun x => okB (verB x)) := by
  refine known1 hmix tau_ok (ctx_cons k_Place ctx_nil) (fn := Try.f84) (by kernel_rfl) [] (by kernel_rfl) _ _ fun x hfit => ⟨rfl, [], ?_⟩
  (repeat' (first | ((with_reducible refine BdI ?_); (first | ((with_reducible refine SqI ?_ (fun Kv hN hX hR => ?_)); (next => exact rfl)) | ((with_reducible refine JnI ?_ ?_); (next => exact rfl)) | (conv => whnf))) | (with_reducible first | refine BdS (fun Kv hN hX hR => ?_) | refine Stop.mk ?_ | refine Join.mk ⟨fun Kv hN hX hR => ?_, ?_⟩ | refine DrawJ.each ?_ | exact SubJ.self _) | with_reducible refine SubJ.of ?_ | (with_reducible first | refine FlS (fun Kf hF => ?_) | refine FlN ?_ | refine NdS (fun Kg hG => ?_) | (refine hF _ _ ?_; clear hF; clear Kf) | (refine hG _ _ _ _ ?_; clear hG; clear Kg)) | ((with_reducible refine SqI ?_ (fun Kv hN hX hR => ?_)); (next => exact rfl)) | ((with_reducible refine JnI ?_ ?_); (next => exact rfl)) | ((with_reducible first | refine hN _ ?_ | refine hX _ _ ?_ | refine hR _ ?_); (try (clear hG; clear Kg)); clear hN hX hR; clear Kv) | ((conv => whnf); first | (with_reducible first | rfl | exact True.intro | intro _ | refine And.intro ?_ ?_) | ((with_reducible first | refine hN _ ?_ | refine hX _ _ ?_ | refine hR _ ?_); (try (clear hG; clear Kg)); clear hN hX hR; clear Kv) | (with_reducible first | refine BdS (fun Kv hN hX hR => ?_) | refine Stop.mk ?_ | refine Join.mk ⟨fun Kv hN hX hR => ?_, ?_⟩ | refine DrawJ.each ?_ | exact SubJ.self _) | with_reducible refine SubJ.of ?_ | (with_reducible first | refine FlS (fun Kf hF => ?_) | refine FlN ?_ | refine NdS (fun Kg hG => ?_) | (refine hF _ _ ?_; clear hF; clear Kf) | (refine hG _ _ _ _ ?_; clear hG; clear Kg))))); all_goals (conv => whnf); all_goals (repeat ((try (clear hG; clear Kg)); clear hN hX hR; clear Kv))
  all_goals simp_all [verB]
  all_goals omega
theorem k_ItemMay : Known Try.prog tau 69 (S1 dItem fun x => okB (itemB x)) := by
  refine known1 hmix tau_ok (ctx_cons k_Byte (ctx_cons k_VerMay ctx_nil)) (fn := Try.f69) (by kernel_rfl) [] (by kernel_rfl) _ _ fun x hfit => ⟨rfl, [], ?_⟩
  (repeat' (first | ((with_reducible refine BdI ?_); (first | ((with_reducible refine SqI ?_ (fun Kv hN hX hR => ?_)); (next => exact rfl)) | ((with_reducible refine JnI ?_ ?_); (next => exact rfl)) | (conv => whnf))) | (with_reducible first | refine BdS (fun Kv hN hX hR => ?_) | refine Stop.mk ?_ | refine Join.mk ⟨fun Kv hN hX hR => ?_, ?_⟩ | refine DrawJ.each ?_ | exact SubJ.self _) | with_reducible refine SubJ.of ?_ | (with_reducible first | refine FlS (fun Kf hF => ?_) | refine FlN ?_ | refine NdS (fun Kg hG => ?_) | (refine hF _ _ ?_; clear hF; clear Kf) | (refine hG _ _ _ _ ?_; clear hG; clear Kg)) | ((with_reducible refine SqI ?_ (fun Kv hN hX hR => ?_)); (next => exact rfl)) | ((with_reducible refine JnI ?_ ?_); (next => exact rfl)) | ((with_reducible first | refine hN _ ?_ | refine hX _ _ ?_ | refine hR _ ?_); (try (clear hG; clear Kg)); clear hN hX hR; clear Kv) | ((conv => whnf); first | (with_reducible first | rfl | exact True.intro | intro _ | refine And.intro ?_ ?_) | ((with_reducible first | refine hN _ ?_ | refine hX _ _ ?_ | refine hR _ ?_); (try (clear hG; clear Kg)); clear hN hX hR; clear Kv) | (with_reducible first | refine BdS (fun Kv hN hX hR => ?_) | refine Stop.mk ?_ | refine Join.mk ⟨fun Kv hN hX hR => ?_, ?_⟩ | refine DrawJ.each ?_ | exact SubJ.self _) | with_reducible refine SubJ.of ?_ | (with_reducible first | refine FlS (fun Kf hF => ?_) | refine FlN ?_ | refine NdS (fun Kg hG => ?_) | (refine hF _ _ ?_; clear hF; clear Kf) | (refine hG _ _ _ _ ?_; clear hG; clear Kg))))); all_goals (conv => whnf); all_goals (repeat ((try (clear hG; clear Kg)); clear hN hX hR; clear Kv))
  all_goals simp_all [itemB]
theorem k_refPlace : Known Try.prog tau 32 (S1 dInt fun x => okB (placeB x)) := by
  refine known1 hmix tau_ok ctx_nil (fn := Try.f32) (by kernel_rfl) [] (by kernel_rfl) _ _ fun x hfit => ⟨rfl, [], ?_⟩
  (repeat' (first | ((with_reducible refine BdI ?_); (first | ((with_reducible refine SqI ?_ (fun Kv hN hX hR => ?_)); (next => exact rfl)) | ((with_reducible refine JnI ?_ ?_); (next => exact rfl)) | (conv => whnf))) | (with_reducible first | refine BdS (fun Kv hN hX hR => ?_) | refine Stop.mk ?_ | refine Join.mk ⟨fun Kv hN hX hR => ?_, ?_⟩ | refine DrawJ.each ?_ | exact SubJ.self _) | with_reducible refine SubJ.of ?_ | (with_reducible first | refine FlS (fun Kf hF => ?_) | refine FlN ?_ | refine NdS (fun Kg hG => ?_) | (refine hF _ _ ?_; clear hF; clear Kf) | (refine hG _ _ _ _ ?_; clear hG; clear Kg)) | ((with_reducible refine SqI ?_ (fun Kv hN hX hR => ?_)); (next => exact rfl)) | ((with_reducible refine JnI ?_ ?_); (next => exact rfl)) | ((with_reducible first | refine hN _ ?_ | refine hX _ _ ?_ | refine hR _ ?_); (try (clear hG; clear Kg)); clear hN hX hR; clear Kv) | ((conv => whnf); first | (with_reducible first | rfl | exact True.intro | intro _ | refine And.intro ?_ ?_) | ((with_reducible first | refine hN _ ?_ | refine hX _ _ ?_ | refine hR _ ?_); (try (clear hG; clear Kg)); clear hN hX hR; clear Kv) | (with_reducible first | refine BdS (fun Kv hN hX hR => ?_) | refine Stop.mk ?_ | refine Join.mk ⟨fun Kv hN hX hR => ?_, ?_⟩ | refine DrawJ.each ?_ | exact SubJ.self _) | with_reducible refine SubJ.of ?_ | (with_reducible first | refine FlS (fun Kf hF => ?_) | refine FlN ?_ | refine NdS (fun Kg hG => ?_) | (refine hF _ _ ?_; clear hF; clear Kf) | (refine hG _ _ _ _ ?_; clear hG; clear Kg))))); all_goals (conv => whnf); all_goals (repeat ((try (clear hG; clear Kg)); clear hN hX hR; clear Kv))
  all_goals simp_all [placeB]
  all_goals omega
theorem k_refByte : Known Try.prog tau 85 (S1 dInt fun x => okB (placeB x)) := by
  refine known1 hmix tau_ok ctx_nil (fn := Try.f85) (by kernel_rfl) [] (by kernel_rfl) _ _ fun x hfit => ⟨rfl, [], ?_⟩
  (repeat' (first | ((with_reducible refine BdI ?_); (first | ((with_reducible refine SqI ?_ (fun Kv hN hX hR => ?_)); (next => exact rfl)) | ((with_reducible refine JnI ?_ ?_); (next => exact rfl)) | (conv => whnf))) | (with_reducible first | refine BdS (fun Kv hN hX hR => ?_) | refine Stop.mk ?_ | refine Join.mk ⟨fun Kv hN hX hR => ?_, ?_⟩ | refine DrawJ.each ?_ | exact SubJ.self _) | with_reducible refine SubJ.of ?_ | (with_reducible first | refine FlS (fun Kf hF => ?_) | refine FlN ?_ | refine NdS (fun Kg hG => ?_) | (refine hF _ _ ?_; clear hF; clear Kf) | (refine hG _ _ _ _ ?_; clear hG; clear Kg)) | ((with_reducible refine SqI ?_ (fun Kv hN hX hR => ?_)); (next => exact rfl)) | ((with_reducible refine JnI ?_ ?_); (next => exact rfl)) | ((with_reducible first | refine hN _ ?_ | refine hX _ _ ?_ | refine hR _ ?_); (try (clear hG; clear Kg)); clear hN hX hR; clear Kv) | ((conv => whnf); first | (with_reducible first | rfl | exact True.intro | intro _ | refine And.intro ?_ ?_) | ((with_reducible first | refine hN _ ?_ | refine hX _ _ ?_ | refine hR _ ?_); (try (clear hG; clear Kg)); clear hN hX hR; clear Kv) | (with_reducible first | refine BdS (fun Kv hN hX hR => ?_) | refine Stop.mk ?_ | refine Join.mk ⟨fun Kv hN hX hR => ?_, ?_⟩ | refine DrawJ.each ?_ | exact SubJ.self _) | with_reducible refine SubJ.of ?_ | (with_reducible first | refine FlS (fun Kf hF => ?_) | refine FlN ?_ | refine NdS (fun Kg hG => ?_) | (refine hF _ _ ?_; clear hF; clear Kf) | (refine hG _ _ _ _ ?_; clear hG; clear Kg))))); all_goals (conv => whnf); all_goals (repeat ((try (clear hG; clear Kg)); clear hN hX hR; clear Kv))
  all_goals simp_all [placeB]
  all_goals omega
theorem k_refPlaces : Known Try.prog tau 76 (S1 dInts fun l => okB (l.all placeB)) := by
  refine known1 hmix tau_ok (ctx_cons k_refPlace ctx_nil) (fn := Try.f76) (by kernel_rfl) [] (by kernel_rfl) _ _ fun xs hfit => ⟨rfl,
    [(2, invN [3, 4, 5, 6, 7, 8, 9, 10, 11, 12, 13, 14, 15] (fun i => i ≤ xs.length ∧ ∀ x ∈ xs.take i, placeB x = true) (fun i => withS [(3, .int .i64 i)]) (fun i => xs.length - i))], ?_⟩
  have hlen : xs.length * 8 ≤ 140737488355328 := hfit.1
  clear hfit
  (repeat' (first | ((with_reducible refine BdI ?_); (first | ((with_reducible refine SqI ?_ (fun Kv hN hX hR => ?_)); (next => exact rfl)) | ((with_reducible refine JnI ?_ ?_); (next => exact rfl)) | (conv => whnf))) | (with_reducible first | refine BdS (fun Kv hN hX hR => ?_) | refine Stop.mk ?_ | refine Join.mk ⟨fun Kv hN hX hR => ?_, ?_⟩ | refine DrawJ.each ?_ | exact SubJ.self _) | with_reducible refine SubJ.of ?_ | (with_reducible first | refine FlS (fun Kf hF => ?_) | refine FlN ?_ | refine NdS (fun Kg hG => ?_) | (refine hF _ _ ?_; clear hF; clear Kf) | (refine hG _ _ _ _ ?_; clear hG; clear Kg)) | ((with_reducible refine SqI ?_ (fun Kv hN hX hR => ?_)); (next => exact rfl)) | ((with_reducible refine JnI ?_ ?_); (next => exact rfl)) | ((with_reducible first | refine hN _ ?_ | refine hX _ _ ?_ | refine hR _ ?_); (try (clear hG; clear Kg)); clear hN hX hR; clear Kv) | ((conv => whnf); first | (with_reducible first | rfl | exact True.intro | intro _ | refine And.intro ?_ ?_) | ((with_reducible first | refine hN _ ?_ | refine hX _ _ ?_ | refine hR _ ?_); (try (clear hG; clear Kg)); clear hN hX hR; clear Kv) | (with_reducible first | refine BdS (fun Kv hN hX hR => ?_) | refine Stop.mk ?_ | refine Join.mk ⟨fun Kv hN hX hR => ?_, ?_⟩ | refine DrawJ.each ?_ | exact SubJ.self _) | with_reducible refine SubJ.of ?_ | (with_reducible first | refine FlS (fun Kf hF => ?_) | refine FlN ?_ | refine NdS (fun Kg hG => ?_) | (refine hF _ _ ?_; clear hF; clear Kf) | (refine hG _ _ _ _ ?_; clear hG; clear Kg))))); all_goals (conv => whnf); all_goals (repeat ((try (clear hG; clear Kg)); clear hN hX hR; clear Kv))
  · refine ⟨0, ⟨by omega, by simp⟩, ?_⟩
    (repeat' (first | ((with_reducible refine BdI ?_); (first | ((with_reducible refine SqI ?_ (fun Kv hN hX hR => ?_)); (next => exact rfl)) | ((with_reducible refine JnI ?_ ?_); (next => exact rfl)) | (conv => whnf))) | (with_reducible first | refine BdS (fun Kv hN hX hR => ?_) | refine Stop.mk ?_ | refine Join.mk ⟨fun Kv hN hX hR => ?_, ?_⟩ | refine DrawJ.each ?_ | exact SubJ.self _) | with_reducible refine SubJ.of ?_ | (with_reducible first | refine FlS (fun Kf hF => ?_) | refine FlN ?_ | refine NdS (fun Kg hG => ?_) | (refine hF _ _ ?_; clear hF; clear Kf) | (refine hG _ _ _ _ ?_; clear hG; clear Kg)) | ((with_reducible refine SqI ?_ (fun Kv hN hX hR => ?_)); (next => exact rfl)) | ((with_reducible refine JnI ?_ ?_); (next => exact rfl)) | ((with_reducible first | refine hN _ ?_ | refine hX _ _ ?_ | refine hR _ ?_); (try (clear hG; clear Kg)); clear hN hX hR; clear Kv) | ((conv => whnf); first | (with_reducible first | rfl | exact True.intro | intro _ | refine And.intro ?_ ?_) | ((with_reducible first | refine hN _ ?_ | refine hX _ _ ?_ | refine hR _ ?_); (try (clear hG; clear Kg)); clear hN hX hR; clear Kv) | (with_reducible first | refine BdS (fun Kv hN hX hR => ?_) | refine Stop.mk ?_ | refine Join.mk ⟨fun Kv hN hX hR => ?_, ?_⟩ | refine DrawJ.each ?_ | exact SubJ.self _) | with_reducible refine SubJ.of ?_ | (with_reducible first | refine FlS (fun Kf hF => ?_) | refine FlN ?_ | refine NdS (fun Kg hG => ?_) | (refine hF _ _ ?_; clear hF; clear Kf) | (refine hG _ _ _ _ ?_; clear hG; clear Kg))))); all_goals (conv => whnf); all_goals (repeat ((try (clear hG; clear Kg)); clear hN hX hR; clear Kv))
    all_goals rfl
  · rename_i i hi h
    simp at h
    exact Ob.mk ⟨by omega, by simpa using h⟩
  · rename_i i hi h1 h2 h3
    simp at h2
    simp at h3
    refine Eq.symm (List.all_eq_false.2 ⟨_, getD_mem (d := 0) h2, by simpa using h3⟩)
  · rename_i i hi h1 h2 h3
    simp at h2
    simp at h3
    refine ⟨i + 1, ⟨h2, all_take_succ h2 hi.2 h3⟩, by show xs.length - (i + 1) < xs.length - i; omega, ?_⟩
    (repeat' (first | ((with_reducible refine BdI ?_); (first | ((with_reducible refine SqI ?_ (fun Kv hN hX hR => ?_)); (next => exact rfl)) | ((with_reducible refine JnI ?_ ?_); (next => exact rfl)) | (conv => whnf))) | (with_reducible first | refine BdS (fun Kv hN hX hR => ?_) | refine Stop.mk ?_ | refine Join.mk ⟨fun Kv hN hX hR => ?_, ?_⟩ | refine DrawJ.each ?_ | exact SubJ.self _) | with_reducible refine SubJ.of ?_ | (with_reducible first | refine FlS (fun Kf hF => ?_) | refine FlN ?_ | refine NdS (fun Kg hG => ?_) | (refine hF _ _ ?_; clear hF; clear Kf) | (refine hG _ _ _ _ ?_; clear hG; clear Kg)) | ((with_reducible refine SqI ?_ (fun Kv hN hX hR => ?_)); (next => exact rfl)) | ((with_reducible refine JnI ?_ ?_); (next => exact rfl)) | ((with_reducible first | refine hN _ ?_ | refine hX _ _ ?_ | refine hR _ ?_); (try (clear hG; clear Kg)); clear hN hX hR; clear Kv) | ((conv => whnf); first | (with_reducible first | rfl | exact True.intro | intro _ | refine And.intro ?_ ?_) | ((with_reducible first | refine hN _ ?_ | refine hX _ _ ?_ | refine hR _ ?_); (try (clear hG; clear Kg)); clear hN hX hR; clear Kv) | (with_reducible first | refine BdS (fun Kv hN hX hR => ?_) | refine Stop.mk ?_ | refine Join.mk ⟨fun Kv hN hX hR => ?_, ?_⟩ | refine DrawJ.each ?_ | exact SubJ.self _) | with_reducible refine SubJ.of ?_ | (with_reducible first | refine FlS (fun Kf hF => ?_) | refine FlN ?_ | refine NdS (fun Kg hG => ?_) | (refine hF _ _ ?_; clear hF; clear Kf) | (refine hG _ _ _ _ ?_; clear hG; clear Kg))))); all_goals (conv => whnf); all_goals (repeat ((try (clear hG; clear Kg)); clear hN hX hR; clear Kv))
    exact wrapI (by omega) (by omega)
  · rename_i i hi h1
    simp at h1
    obtain ⟨h2, h3⟩ := hi
    rw [List.take_of_length_le h1] at h3
    exact Eq.symm (List.all_eq_true.2 h3)
theorem k_refVer : Known Try.prog tau 86 (S1 dVer fun x => okB (verB x)) := by
  refine known1 hmix tau_ok (ctx_cons k_refPlace ctx_nil) (fn := Try.f86) (by kernel_rfl) [] (by kernel_rfl) _ _ fun x hfit => ⟨rfl, [], ?_⟩
  (repeat' (first | ((with_reducible refine BdI ?_); (first | ((with_reducible refine SqI ?_ (fun Kv hN hX hR => ?_)); (next => exact rfl)) | ((with_reducible refine JnI ?_ ?_); (next => exact rfl)) | (conv => whnf))) | (with_reducible first | refine BdS (fun Kv hN hX hR => ?_) | refine Stop.mk ?_ | refine Join.mk ⟨fun Kv hN hX hR => ?_, ?_⟩ | refine DrawJ.each ?_ | exact SubJ.self _) | with_reducible refine SubJ.of ?_ | (with_reducible first | refine FlS (fun Kf hF => ?_) | refine FlN ?_ | refine NdS (fun Kg hG => ?_) | (refine hF _ _ ?_; clear hF; clear Kf) | (refine hG _ _ _ _ ?_; clear hG; clear Kg)) | ((with_reducible refine SqI ?_ (fun Kv hN hX hR => ?_)); (next => exact rfl)) | ((with_reducible refine JnI ?_ ?_); (next => exact rfl)) | ((with_reducible first | refine hN _ ?_ | refine hX _ _ ?_ | refine hR _ ?_); (try (clear hG; clear Kg)); clear hN hX hR; clear Kv) | ((conv => whnf); first | (with_reducible first | rfl | exact True.intro | intro _ | refine And.intro ?_ ?_) | ((with_reducible first | refine hN _ ?_ | refine hX _ _ ?_ | refine hR _ ?_); (try (clear hG; clear Kg)); clear hN hX hR; clear Kv) | (with_reducible first | refine BdS (fun Kv hN hX hR => ?_) | refine Stop.mk ?_ | refine Join.mk ⟨fun Kv hN hX hR => ?_, ?_⟩ | refine DrawJ.each ?_ | exact SubJ.self _) | with_reducible refine SubJ.of ?_ | (with_reducible first | refine FlS (fun Kf hF => ?_) | refine FlN ?_ | refine NdS (fun Kg hG => ?_) | (refine hF _ _ ?_; clear hF; clear Kf) | (refine hG _ _ _ _ ?_; clear hG; clear Kg))))); all_goals (conv => whnf); all_goals (repeat ((try (clear hG; clear Kg)); clear hN hX hR; clear Kv))
  all_goals simp_all [verB]
  all_goals omega
theorem k_refItem : Known Try.prog tau 72 (S1 dItem fun x => okB (itemB x)) := by
  refine known1 hmix tau_ok (ctx_cons k_refByte (ctx_cons k_refVer ctx_nil)) (fn := Try.f72) (by kernel_rfl) [] (by kernel_rfl) _ _ fun x hfit => ⟨rfl, [], ?_⟩
  (repeat' (first | ((with_reducible refine BdI ?_); (first | ((with_reducible refine SqI ?_ (fun Kv hN hX hR => ?_)); (next => exact rfl)) | ((with_reducible refine JnI ?_ ?_); (next => exact rfl)) | (conv => whnf))) | (with_reducible first | refine BdS (fun Kv hN hX hR => ?_) | refine Stop.mk ?_ | refine Join.mk ⟨fun Kv hN hX hR => ?_, ?_⟩ | refine DrawJ.each ?_ | exact SubJ.self _) | with_reducible refine SubJ.of ?_ | (with_reducible first | refine FlS (fun Kf hF => ?_) | refine FlN ?_ | refine NdS (fun Kg hG => ?_) | (refine hF _ _ ?_; clear hF; clear Kf) | (refine hG _ _ _ _ ?_; clear hG; clear Kg)) | ((with_reducible refine SqI ?_ (fun Kv hN hX hR => ?_)); (next => exact rfl)) | ((with_reducible refine JnI ?_ ?_); (next => exact rfl)) | ((with_reducible first | refine hN _ ?_ | refine hX _ _ ?_ | refine hR _ ?_); (try (clear hG; clear Kg)); clear hN hX hR; clear Kv) | ((conv => whnf); first | (with_reducible first | rfl | exact True.intro | intro _ | refine And.intro ?_ ?_) | ((with_reducible first | refine hN _ ?_ | refine hX _ _ ?_ | refine hR _ ?_); (try (clear hG; clear Kg)); clear hN hX hR; clear Kv) | (with_reducible first | refine BdS (fun Kv hN hX hR => ?_) | refine Stop.mk ?_ | refine Join.mk ⟨fun Kv hN hX hR => ?_, ?_⟩ | refine DrawJ.each ?_ | exact SubJ.self _) | with_reducible refine SubJ.of ?_ | (with_reducible first | refine FlS (fun Kf hF => ?_) | refine FlN ?_ | refine NdS (fun Kg hG => ?_) | (refine hF _ _ ?_; clear hF; clear Kf) | (refine hG _ _ _ _ ?_; clear hG; clear Kg))))); all_goals (conv => whnf); all_goals (repeat ((try (clear hG; clear Kg)); clear hN hX hR; clear Kv))
  all_goals simp_all [itemB]
end Go.Proofs.Ytaapoiikbolgnaa

/- Contracts: the laws' own small functions. -/
namespace Go.Proofs.Ytaapoiikbolgnaa
open Go.RowKit
set_option maxRecDepth 20000

theorem k_Num : Known Try.prog tau 16 (S1 dInt fun x => .ok (.int .i64 x) []) := by
  refine known1 hmix tau_ok ctx_nil (fn := Try.f16) (by kernel_rfl) [] (by kernel_rfl) _ _ fun x hfit => ⟨rfl, [], ?_⟩
  (repeat' (first | ((with_reducible refine BdI ?_); (first | ((with_reducible refine SqI ?_ (fun Kv hN hX hR => ?_)); (next => exact rfl)) | ((with_reducible refine JnI ?_ ?_); (next => exact rfl)) | (conv => whnf))) | (with_reducible first | refine BdS (fun Kv hN hX hR => ?_) | refine Stop.mk ?_ | refine Join.mk ⟨fun Kv hN hX hR => ?_, ?_⟩ | refine DrawJ.each ?_ | exact SubJ.self _) | with_reducible refine SubJ.of ?_ | (with_reducible first | refine FlS (fun Kf hF => ?_) | refine FlN ?_ | refine NdS (fun Kg hG => ?_) | (refine hF _ _ ?_; clear hF; clear Kf) | (refine hG _ _ _ _ ?_; clear hG; clear Kg)) | ((with_reducible refine SqI ?_ (fun Kv hN hX hR => ?_)); (next => exact rfl)) | ((with_reducible refine JnI ?_ ?_); (next => exact rfl)) | ((with_reducible first | refine hN _ ?_ | refine hX _ _ ?_ | refine hR _ ?_); (try (clear hG; clear Kg)); clear hN hX hR; clear Kv) | ((conv => whnf); first | (with_reducible first | rfl | exact True.intro | intro _ | refine And.intro ?_ ?_) | ((with_reducible first | refine hN _ ?_ | refine hX _ _ ?_ | refine hR _ ?_); (try (clear hG; clear Kg)); clear hN hX hR; clear Kv) | (with_reducible first | refine BdS (fun Kv hN hX hR => ?_) | refine Stop.mk ?_ | refine Join.mk ⟨fun Kv hN hX hR => ?_, ?_⟩ | refine DrawJ.each ?_ | exact SubJ.self _) | with_reducible refine SubJ.of ?_ | (with_reducible first | refine FlS (fun Kf hF => ?_) | refine FlN ?_ | refine NdS (fun Kg hG => ?_) | (refine hF _ _ ?_; clear hF; clear Kf) | (refine hG _ _ _ _ ?_; clear hG; clear Kg))))); all_goals (conv => whnf); all_goals (repeat ((try (clear hG; clear Kg)); clear hN hX hR; clear Kv))
theorem eq_of_take {α : Type} {d : α} {xs ys : List α} (hl : xs.length = ys.length) (h : ∀ j, j < xs.length → xs.getD j d = ys.getD j d) : xs = ys := by
  refine List.ext_getElem hl fun i h1 h2 => ?_
  have := h i h1
  simpa [List.getD_eq_getElem?_getD, h1, h2] using this
theorem k_SameInts : Known Try.prog tau 28 (S2 dInts dInts fun a b => okB (decide (a = b))) := by
  refine known2 hmix tau_ok ctx_nil (fn := Try.f28) (by kernel_rfl) [(6, [(0, 0), (1, 0), (2, 3), (3, 4), (4, 0), (5, 0), (6, 48), (7, 64), (8, 136)])] (by kernel_rfl) _ _ _ fun xs ys hfit => ⟨rfl,
    [(4, invN [4, 5, 11, 12, 13, 14, 15, 16, 17, 18, 19, 20, 21, 22, 23, 24, 25] (fun i => i ≤ xs.length ∧ ∀ j, j < i → xs.getD j 0 = ys.getD j 0) (fun i => withS [(5, .int .i64 i)]) (fun i => xs.length - i))], ?_⟩
  have hlen : xs.length * 8 ≤ 140737488355328 := hfit.1
  clear hfit
  (repeat' (first | ((with_reducible refine BdI ?_); (first | ((with_reducible refine SqI ?_ (fun Kv hN hX hR => ?_)); (next => exact rfl)) | ((with_reducible refine JnI ?_ ?_); (next => exact rfl)) | (conv => whnf))) | (with_reducible first | refine BdS (fun Kv hN hX hR => ?_) | refine Stop.mk ?_ | refine Join.mk ⟨fun Kv hN hX hR => ?_, ?_⟩ | refine DrawJ.each ?_ | exact SubJ.self _) | with_reducible refine SubJ.of ?_ | (with_reducible first | refine FlS (fun Kf hF => ?_) | refine FlN ?_ | refine NdS (fun Kg hG => ?_) | (refine hF _ _ ?_; clear hF; clear Kf) | (refine hG _ _ _ _ ?_; clear hG; clear Kg)) | ((with_reducible refine SqI ?_ (fun Kv hN hX hR => ?_)); (next => exact rfl)) | ((with_reducible refine JnI ?_ ?_); (next => exact rfl)) | ((with_reducible first | refine hN _ ?_ | refine hX _ _ ?_ | refine hR _ ?_); (try (clear hG; clear Kg)); clear hN hX hR; clear Kv) | ((conv => whnf); first | (with_reducible first | rfl | exact True.intro | intro _ | refine And.intro ?_ ?_) | ((with_reducible first | refine hN _ ?_ | refine hX _ _ ?_ | refine hR _ ?_); (try (clear hG; clear Kg)); clear hN hX hR; clear Kv) | (with_reducible first | refine BdS (fun Kv hN hX hR => ?_) | refine Stop.mk ?_ | refine Join.mk ⟨fun Kv hN hX hR => ?_, ?_⟩ | refine DrawJ.each ?_ | exact SubJ.self _) | with_reducible refine SubJ.of ?_ | (with_reducible first | refine FlS (fun Kf hF => ?_) | refine FlN ?_ | refine NdS (fun Kg hG => ?_) | (refine hF _ _ ?_; clear hF; clear Kf) | (refine hG _ _ _ _ ?_; clear hG; clear Kg))))); all_goals (conv => whnf); all_goals (repeat ((try (clear hG; clear Kg)); clear hN hX hR; clear Kv))
  · rename_i h
    simp at h
    exact (decide_eq_false (fun e => h (by rw [e]))).symm
  · refine ⟨0, ⟨by omega, by intros; omega⟩, ?_⟩
    (repeat' (first | ((with_reducible refine BdI ?_); (first | ((with_reducible refine SqI ?_ (fun Kv hN hX hR => ?_)); (next => exact rfl)) | ((with_reducible refine JnI ?_ ?_); (next => exact rfl)) | (conv => whnf))) | (with_reducible first | refine BdS (fun Kv hN hX hR => ?_) | refine Stop.mk ?_ | refine Join.mk ⟨fun Kv hN hX hR => ?_, ?_⟩ | refine DrawJ.each ?_ | exact SubJ.self _) | with_reducible refine SubJ.of ?_ | (with_reducible first | refine FlS (fun Kf hF => ?_) | refine FlN ?_ | refine NdS (fun Kg hG => ?_) | (refine hF _ _ ?_; clear hF; clear Kf) | (refine hG _ _ _ _ ?_; clear hG; clear Kg)) | ((with_reducible refine SqI ?_ (fun Kv hN hX hR => ?_)); (next => exact rfl)) | ((with_reducible refine JnI ?_ ?_); (next => exact rfl)) | ((with_reducible first | refine hN _ ?_ | refine hX _ _ ?_ | refine hR _ ?_); (try (clear hG; clear Kg)); clear hN hX hR; clear Kv) | ((conv => whnf); first | (with_reducible first | rfl | exact True.intro | intro _ | refine And.intro ?_ ?_) | ((with_reducible first | refine hN _ ?_ | refine hX _ _ ?_ | refine hR _ ?_); (try (clear hG; clear Kg)); clear hN hX hR; clear Kv) | (with_reducible first | refine BdS (fun Kv hN hX hR => ?_) | refine Stop.mk ?_ | refine Join.mk ⟨fun Kv hN hX hR => ?_, ?_⟩ | refine DrawJ.each ?_ | exact SubJ.self _) | with_reducible refine SubJ.of ?_ | (with_reducible first | refine FlS (fun Kf hF => ?_) | refine FlN ?_ | refine NdS (fun Kg hG => ?_) | (refine hF _ _ ?_; clear hF; clear Kf) | (refine hG _ _ _ _ ?_; clear hG; clear Kg))))); all_goals (conv => whnf); all_goals (repeat ((try (clear hG; clear Kg)); clear hN hX hR; clear Kv))
    all_goals rfl
  · rename_i hl i hi h
    simp at h
    exact Ob.mk ⟨by omega, by omega⟩
  · rename_i hl i hi h h2
    simp at hl
    exact Ob.mk ⟨by omega, by omega⟩
  · rename_i hl i hi h h1 h2 h3
    simp at h3
    exact (decide_eq_false (fun e => h3 (by rw [e]))).symm
  · rename_i hl i hi h h1 h2 h3
    simp at h3 h
    refine ⟨i + 1, ⟨by omega, fun j hj => ?_⟩, by show xs.length - (i + 1) < xs.length - i; omega, ?_⟩
    · rcases Nat.lt_succ_iff_lt_or_eq.1 hj with h4 | h4
      · exact hi.2 j h4
      · subst h4; simpa [List.getD_eq_getElem?_getD] using h3
    · (repeat' (first | ((with_reducible refine BdI ?_); (first | ((with_reducible refine SqI ?_ (fun Kv hN hX hR => ?_)); (next => exact rfl)) | ((with_reducible refine JnI ?_ ?_); (next => exact rfl)) | (conv => whnf))) | (with_reducible first | refine BdS (fun Kv hN hX hR => ?_) | refine Stop.mk ?_ | refine Join.mk ⟨fun Kv hN hX hR => ?_, ?_⟩ | refine DrawJ.each ?_ | exact SubJ.self _) | with_reducible refine SubJ.of ?_ | (with_reducible first | refine FlS (fun Kf hF => ?_) | refine FlN ?_ | refine NdS (fun Kg hG => ?_) | (refine hF _ _ ?_; clear hF; clear Kf) | (refine hG _ _ _ _ ?_; clear hG; clear Kg)) | ((with_reducible refine SqI ?_ (fun Kv hN hX hR => ?_)); (next => exact rfl)) | ((with_reducible refine JnI ?_ ?_); (next => exact rfl)) | ((with_reducible first | refine hN _ ?_ | refine hX _ _ ?_ | refine hR _ ?_); (try (clear hG; clear Kg)); clear hN hX hR; clear Kv) | ((conv => whnf); first | (with_reducible first | rfl | exact True.intro | intro _ | refine And.intro ?_ ?_) | ((with_reducible first | refine hN _ ?_ | refine hX _ _ ?_ | refine hR _ ?_); (try (clear hG; clear Kg)); clear hN hX hR; clear Kv) | (with_reducible first | refine BdS (fun Kv hN hX hR => ?_) | refine Stop.mk ?_ | refine Join.mk ⟨fun Kv hN hX hR => ?_, ?_⟩ | refine DrawJ.each ?_ | exact SubJ.self _) | with_reducible refine SubJ.of ?_ | (with_reducible first | refine FlS (fun Kf hF => ?_) | refine FlN ?_ | refine NdS (fun Kg hG => ?_) | (refine hF _ _ ?_; clear hF; clear Kf) | (refine hG _ _ _ _ ?_; clear hG; clear Kg))))); all_goals (conv => whnf); all_goals (repeat ((try (clear hG; clear Kg)); clear hN hX hR; clear Kv))
      exact wrapI (by omega) (by omega)
  · rename_i hl i hi h
    simp at hl h
    exact (decide_eq_true (eq_of_take (d := 0) (by omega) fun j hj => hi.2 j (by omega))).symm
end Go.Proofs.Ytaapoiikbolgnaa

/- A symbolic executor for loaded Go code: calls that are entered in place. -/
namespace Go.Proofs.Ytaapoiikbolgnaa
open Go.RowKit

def enterI : List SV → Nat → List (Nat × SV)
  | [], _ => []
  | v :: l, n => (n, v) :: enterI l (n + 1)
/-- Back in the caller's frame. -/
def popK (v : SV) (dep : Nat) (K : SV → St → Prop) : St → Prop
  | ⟨_, fr :: stk, bx, rw, _⟩ => K v ⟨fr, stk, bx, rw, dep⟩
  | _ => False
/-- A call entered in place. -/
noncomputable def inlT (τ : Tys) (C : Ctx) (D : Draws) (L : List (Nat × Inv)) (fn : Func) : CallT := fun args s K => match s with
  | ⟨fr, stk, bx, rw, dep⟩ => Stop (wpC τ C D L (fbody fn) ⟨enterI args 0, fr :: stk, bx, rw, dep + 10000000⟩ fun e s' => match e with
    | .exit _ => False
    | _ => resVals τ s' fn.results.toList [] fun vs => match notTup2 vs with
      | true => (oneOf vs).force fun v => popK v dep K s'
      | false => False)
where notTup2 : List SV → Bool
  | [] => true
  | [_] => true
  | vs => notTup vs
theorem enterI_lkv : ∀ (l : List SV) (us : List Value) (n t : Nat) (p : SV → Value → Prop), (∀ u, p .junk u) → L0 p l us → p (lkv (enterI l n) t) (if n ≤ t then (us[t - n]?).getD undef else undef)
  | [], us, n, t, p, hj, _ => by simp only [enterI, lkv]; exact hj _
  | x :: l, us, n, t, p, hj, h => by
    obtain ⟨u, us', rfl, h1, h2⟩ := h.inv_cons
    simp only [enterI, lkv]
    split
    · rename_i hk
      obtain rfl := Nat.eq_of_beq_eq_true hk
      simpa using h1
    · rename_i hk
      have hne : n ≠ t := fun e => by subst e; simp at hk
      have := enterI_lkv l us' (n + 1) t p hj h2
      by_cases h3 : n + 1 ≤ t
      · rw [if_pos h3] at this
        rw [if_pos (by omega)]
        obtain ⟨j, rfl⟩ : ∃ j, t = n + 1 + j := ⟨t - (n + 1), by omega⟩
        rw [show n + 1 + j - (n + 1) = j by omega] at this
        rw [show n + 1 + j - n = j + 1 by omega]
        simpa using this
      · rw [if_neg h3] at this
        rw [if_neg (by omega)]
        exact this
theorem notTup_spec : ∀ {vs : List SV}, notTup vs = true → ∀ x ∈ vs, ∀ c, x ≠ .tup c
  | [], _, x, hx => by simp at hx
  | y :: l, h, x, hx => by
    rcases List.mem_cons.1 hx with rfl | hx
    · rintro c rfl; simp [notTup] at h
    · refine notTup_spec (vs := l) ?_ x hx
      cases y <;> first | exact h | (simp [notTup] at h; done)
theorem notTup2_spec {vs : List SV} (h : inlT.notTup2 vs = true) : vs.length = 1 ∨ ∀ x ∈ vs, ∀ c, x ≠ .tup c := by
  unfold inlT.notTup2 at h
  split at h
  · exact .inr fun x hx => by simp at hx
  · exact .inl rfl
  · exact .inr (notTup_spec h)
theorem Den.push {τ : Tys} {w0 : World} {E : Env} {fr : List (Nat × SV)} {stk : List (List (Nat × SV))} {bx : List (Nat × (TypeId × List SV))} {rw' : List (Nat × Ent)} {dep : Nat} {aS : List (Array Value)} {w : World} (hd : Den τ w0 E ⟨fr, stk, bx, rw', dep⟩ aS w)
    {args : List SV} {vals : List Value} (ha : L0 (vd3 E rw' w) args vals) (n dep' : Nat) : Den τ w0 E ⟨enterI args 0, fr :: stk, bx, rw', dep'⟩ ((vals.toArray ++ Array.replicate n undef) :: aS) w := by
  refine ⟨hd.below, hd.bM, hd.Mh, hd.owb, ?_, hd.box, hd.own, hd.bb, hd.br, hd.rr⟩
  intro i f hf
  cases i with
  | zero =>
    simp at hf
    subst hf
    refine ⟨_, rfl, fun t => ?_⟩
    have := enterI_lkv args vals 0 t (vd3 E rw' w) (fun u => trivial) ha
    simp only [Nat.zero_le, if_true, Nat.sub_zero] at this
    have he : (vals.toArray ++ Array.replicate n undef).getD t undef = (vals[t]?).getD undef := by
      rw [Array.getD_eq_getD_getElem?, Array.getElem?_append]
      split
      · simp
      · rename_i hlt
        have : vals[t]? = none := by simpa using hlt
        rw [this, Array.getElem?_replicate]
        split <;> rfl
    show vd3 E rw' w _ _
    rw [he]
    exact this
  | succ i => exact hd.fr i f (by simpa using hf)
theorem Den.pop {τ : Tys} {w0 : World} {E : Env} {f0 fr : List (Nat × SV)} {stk : List (List (Nat × SV))} {bx : List (Nat × (TypeId × List SV))} {rw' : List (Nat × Ent)} {dep dep' : Nat} {a0 : Array Value} {aS : List (Array Value)} {w : World} (hd : Den τ w0 E ⟨f0, fr :: stk, bx, rw', dep⟩ (a0 :: aS) w) :
    Den τ w0 E ⟨fr, stk, bx, rw', dep'⟩ aS w := by
  refine ⟨hd.below, hd.bM, hd.Mh, hd.owb, ?_, hd.box, hd.own, hd.bb, hd.br, hd.rr⟩
  intro i f hf
  obtain ⟨b, hb, hfr⟩ := hd.fr (i + 1) f (by simpa using hf)
  exact ⟨b, by simpa using hb, hfr⟩
theorem inl_ok {P : Program} {τ : Tys} (hm : P.follows .mixedOrders = true) (hτ : TysOk P τ) {C : Ctx} (hC : CtxOk P τ C) {f : FuncId} {fn : Func} (hf : P.funcs[f]? = some fn) (D : Draws) (hok : fnOk D fn = true) (L : List (Nat × Inv)) : TrKnown P τ f (inlT τ C D L fn) := by
  refine ⟨fnOk_enters hf hok, ?_⟩
  simp only [fnOk, Bool.and_eq_true] at hok
  have hb : fn.body = some (fbody fn) := by
    cases hb : fn.body with
    | none => have := hok.1.1; rw [hb] at this; simp [isSome'] at this
    | some c => simp [fbody, hb]
  intro w0 E s aS w args vals K hd hargs hT
  obtain ⟨fr, stk, bx, rw', dep⟩ := s
  simp only [inlT] at hT
  replace hT := hT.out
  refine calls_of_wp hf hb (wpC_sound (w0 := w0) (base := E.base) (M := E.M) (nn := fn.ntmps) (aS := aS) hτ hC hm (fbody fn) _ _ _ _ _ hok.2 hT
    (⟨E, hd.push hargs (fn.ntmps - vals.toArray.size) _, rfl, Nat.le_refl _, by simp; omega, rfl⟩ : At τ w0 E.base E.M fn.ntmps aS ⟨enterI args 0, fr :: stk, bx, rw', dep + 10000000⟩ { tmps := vals.toArray ++ Array.replicate (fn.ntmps - vals.toArray.size) undef, defers := [] } w) ?_)
  intro e s a w' hk hat
  obtain ⟨E', hd', h1, h2, h3, h4⟩ := hat
  have fin : (resVals τ s fn.results.toList [] fun vs => match inlT.notTup2 vs with
      | true => (oneOf vs).force fun v => popK v dep K s
      | false => False) → a.defers = [] ∧ ∃ z, (results fn a.tmps).run P w' = .ok z w' ∧ ∃ z' v s' E', Ending.returned z = .returned z' ∧ K v s' ∧ Den τ w0 E' s' aS w' ∧ E'.base = E.base ∧ E.M ≤ E'.M ∧ vd3 E' s'.rows w' v z' := by
    intro hr
    obtain ⟨xs, vs, hK, hl, hlen, hg⟩ := resVals_ok hτ hd' fn.results.toList [] [] hr L0.nil
    simp only [List.nil_append] at hl
    split at hK
    · rename_i hno
      rw [SV.force_eq] at hK
      have hz := one_vd hl (notTup2_spec hno)
      obtain ⟨f0, stk0, bx0, rw0, dep0⟩ := s
      cases stk0 with
      | nil => exact hK.elim
      | cons fr0 stk0 => exact ⟨h4, oneV vs, results_list rfl hlen hg, oneV vs, _, _, E', rfl, hK, hd'.pop, h1, h2, hz⟩
    · exact hK.elim
  cases e with
  | exit id => exact hk.elim
  | normal => exact fin hk
  | ret => exact fin hk
end Go.Proofs.Ytaapoiikbolgnaa

/- A symbolic executor for loaded Go code: whole numbers, masks, remainders. -/
namespace Go.Proofs.Ytaapoiikbolgnaa
open Go.RowKit

theorem wu64 (n : Int) : IntKind.u64.wrap n = n % 18446744073709551616 := IntKind.wrap_u64 n
/-- A remainder of numbers that aren't negative. -/
theorem tmod_pos {a b : Int} (h : 0 ≤ a) : a.tmod b = a % b := Int.tmod_eq_emod_of_nonneg h
end Go.Proofs.Ytaapoiikbolgnaa

/- Contracts: distances, comparisons, searches. -/
namespace Go.Proofs.Ytaapoiikbolgnaa
open Go.RowKit
set_option maxRecDepth 20000

/-- How far from a place on to another one, aS the machine reckons. -/
def farI (a b : Int) : Int := (IntKind.i64.wrap (IntKind.i64.wrap (b - a) + 256)).tmod 256
theorem farI_eq {a b : Int} (h1 : 0 ≤ a) (h2 : a < 256) (h3 : 0 ≤ b) (h4 : b < 256) : farI a b = (b - a + 256) % 256 := by
  unfold farI
  rw [wrapI (n := b - a) (by omega) (by omega), wrapI (by omega) (by omega), tmod_pos (by omega)]
def cmpI (a b : Int) : Int := if a < b then -1 else if b < a then 1 else 0
theorem k_Far : Known Try.prog tau 81 (S2 dInt dInt fun a b => .ok (.int .i64 (farI a b)) []) := by
  refine known2 hmix tau_ok ctx_nil (fn := Try.f81) (by kernel_rfl) [] (by kernel_rfl) _ _ _ fun a b hfit => ⟨rfl, [], ?_⟩
  (repeat' (first | ((with_reducible refine BdI ?_); (first | ((with_reducible refine SqI ?_ (fun Kv hN hX hR => ?_)); (next => exact rfl)) | ((with_reducible refine JnI ?_ ?_); (next => exact rfl)) | (conv => whnf))) | (with_reducible first | refine BdS (fun Kv hN hX hR => ?_) | refine Stop.mk ?_ | refine Join.mk ⟨fun Kv hN hX hR => ?_, ?_⟩ | refine DrawJ.each ?_ | exact SubJ.self _) | with_reducible refine SubJ.of ?_ | (with_reducible first | refine FlS (fun Kf hF => ?_) | refine FlN ?_ | refine NdS (fun Kg hG => ?_) | (refine hF _ _ ?_; clear hF; clear Kf) | (refine hG _ _ _ _ ?_; clear hG; clear Kg)) | ((with_reducible refine SqI ?_ (fun Kv hN hX hR => ?_)); (next => exact rfl)) | ((with_reducible refine JnI ?_ ?_); (next => exact rfl)) | ((with_reducible first | refine hN _ ?_ | refine hX _ _ ?_ | refine hR _ ?_); (try (clear hG; clear Kg)); clear hN hX hR; clear Kv) | ((conv => whnf); first | (with_reducible first | rfl | exact True.intro | intro _ | refine And.intro ?_ ?_) | ((with_reducible first | refine hN _ ?_ | refine hX _ _ ?_ | refine hR _ ?_); (try (clear hG; clear Kg)); clear hN hX hR; clear Kv) | (with_reducible first | refine BdS (fun Kv hN hX hR => ?_) | refine Stop.mk ?_ | refine Join.mk ⟨fun Kv hN hX hR => ?_, ?_⟩ | refine DrawJ.each ?_ | exact SubJ.self _) | with_reducible refine SubJ.of ?_ | (with_reducible first | refine FlS (fun Kf hF => ?_) | refine FlN ?_ | refine NdS (fun Kg hG => ?_) | (refine hF _ _ ?_; clear hF; clear Kf) | (refine hG _ _ _ _ ?_; clear hG; clear Kg))))); all_goals (conv => whnf); all_goals (repeat ((try (clear hG; clear Kg)); clear hN hX hR; clear Kv))
  all_goals first
    | (refine Ob.mk ?_; decide)
    | rfl
theorem k_reffar : Known Try.prog tau 75 (S2 dInt dInt fun a b => .ok (.int .i64 (farI a b)) []) := by
  refine known2 hmix tau_ok ctx_nil (fn := Try.f75) (by kernel_rfl) [] (by kernel_rfl) _ _ _ fun a b hfit => ⟨rfl, [], ?_⟩
  (repeat' (first | ((with_reducible refine BdI ?_); (first | ((with_reducible refine SqI ?_ (fun Kv hN hX hR => ?_)); (next => exact rfl)) | ((with_reducible refine JnI ?_ ?_); (next => exact rfl)) | (conv => whnf))) | (with_reducible first | refine BdS (fun Kv hN hX hR => ?_) | refine Stop.mk ?_ | refine Join.mk ⟨fun Kv hN hX hR => ?_, ?_⟩ | refine DrawJ.each ?_ | exact SubJ.self _) | with_reducible refine SubJ.of ?_ | (with_reducible first | refine FlS (fun Kf hF => ?_) | refine FlN ?_ | refine NdS (fun Kg hG => ?_) | (refine hF _ _ ?_; clear hF; clear Kf) | (refine hG _ _ _ _ ?_; clear hG; clear Kg)) | ((with_reducible refine SqI ?_ (fun Kv hN hX hR => ?_)); (next => exact rfl)) | ((with_reducible refine JnI ?_ ?_); (next => exact rfl)) | ((with_reducible first | refine hN _ ?_ | refine hX _ _ ?_ | refine hR _ ?_); (try (clear hG; clear Kg)); clear hN hX hR; clear Kv) | ((conv => whnf); first | (with_reducible first | rfl | exact True.intro | intro _ | refine And.intro ?_ ?_) | ((with_reducible first | refine hN _ ?_ | refine hX _ _ ?_ | refine hR _ ?_); (try (clear hG; clear Kg)); clear hN hX hR; clear Kv) | (with_reducible first | refine BdS (fun Kv hN hX hR => ?_) | refine Stop.mk ?_ | refine Join.mk ⟨fun Kv hN hX hR => ?_, ?_⟩ | refine DrawJ.each ?_ | exact SubJ.self _) | with_reducible refine SubJ.of ?_ | (with_reducible first | refine FlS (fun Kf hF => ?_) | refine FlN ?_ | refine NdS (fun Kg hG => ?_) | (refine hF _ _ ?_; clear hF; clear Kf) | (refine hG _ _ _ _ ?_; clear hG; clear Kg))))); all_goals (conv => whnf); all_goals (repeat ((try (clear hG; clear Kg)); clear hN hX hR; clear Kv))
  all_goals first
    | (refine Ob.mk ?_; decide)
    | rfl
theorem k_cmpNaN : Known Try.prog tau 87 (S1 dInt fun a => okB false) := by
  refine known1 hmix tau_ok ctx_nil (fn := Try.f87) (by kernel_rfl) [] (by kernel_rfl) _ _ fun a hfit => ⟨rfl, [], ?_⟩
  (repeat' (first | ((with_reducible refine BdI ?_); (first | ((with_reducible refine SqI ?_ (fun Kv hN hX hR => ?_)); (next => exact rfl)) | ((with_reducible refine JnI ?_ ?_); (next => exact rfl)) | (conv => whnf))) | (with_reducible first | refine BdS (fun Kv hN hX hR => ?_) | refine Stop.mk ?_ | refine Join.mk ⟨fun Kv hN hX hR => ?_, ?_⟩ | refine DrawJ.each ?_ | exact SubJ.self _) | with_reducible refine SubJ.of ?_ | (with_reducible first | refine FlS (fun Kf hF => ?_) | refine FlN ?_ | refine NdS (fun Kg hG => ?_) | (refine hF _ _ ?_; clear hF; clear Kf) | (refine hG _ _ _ _ ?_; clear hG; clear Kg)) | ((with_reducible refine SqI ?_ (fun Kv hN hX hR => ?_)); (next => exact rfl)) | ((with_reducible refine JnI ?_ ?_); (next => exact rfl)) | ((with_reducible first | refine hN _ ?_ | refine hX _ _ ?_ | refine hR _ ?_); (try (clear hG; clear Kg)); clear hN hX hR; clear Kv) | ((conv => whnf); first | (with_reducible first | rfl | exact True.intro | intro _ | refine And.intro ?_ ?_) | ((with_reducible first | refine hN _ ?_ | refine hX _ _ ?_ | refine hR _ ?_); (try (clear hG; clear Kg)); clear hN hX hR; clear Kv) | (with_reducible first | refine BdS (fun Kv hN hX hR => ?_) | refine Stop.mk ?_ | refine Join.mk ⟨fun Kv hN hX hR => ?_, ?_⟩ | refine DrawJ.each ?_ | exact SubJ.self _) | with_reducible refine SubJ.of ?_ | (with_reducible first | refine FlS (fun Kf hF => ?_) | refine FlN ?_ | refine NdS (fun Kg hG => ?_) | (refine hF _ _ ?_; clear hF; clear Kf) | (refine hG _ _ _ _ ?_; clear hG; clear Kg))))); all_goals (conv => whnf); all_goals (repeat ((try (clear hG; clear Kg)); clear hN hX hR; clear Kv))
  simp
theorem k_cmpCompare : Known Try.prog tau 92 (S2 dInt dInt fun a b => .ok (.int .i64 (cmpI a b)) []) := by
  refine known2 hmix tau_ok (ctx_cons k_cmpNaN ctx_nil) (fn := Try.f92) (by kernel_rfl) [] (by kernel_rfl) _ _ _ fun a b hfit => ⟨rfl, [], ?_⟩
  (repeat' (first | ((with_reducible refine BdI ?_); (first | ((with_reducible refine SqI ?_ (fun Kv hN hX hR => ?_)); (next => exact rfl)) | ((with_reducible refine JnI ?_ ?_); (next => exact rfl)) | (conv => whnf))) | (with_reducible first | refine BdS (fun Kv hN hX hR => ?_) | refine Stop.mk ?_ | refine Join.mk ⟨fun Kv hN hX hR => ?_, ?_⟩ | refine DrawJ.each ?_ | exact SubJ.self _) | with_reducible refine SubJ.of ?_ | (with_reducible first | refine FlS (fun Kf hF => ?_) | refine FlN ?_ | refine NdS (fun Kg hG => ?_) | (refine hF _ _ ?_; clear hF; clear Kf) | (refine hG _ _ _ _ ?_; clear hG; clear Kg)) | ((with_reducible refine SqI ?_ (fun Kv hN hX hR => ?_)); (next => exact rfl)) | ((with_reducible refine JnI ?_ ?_); (next => exact rfl)) | ((with_reducible first | refine hN _ ?_ | refine hX _ _ ?_ | refine hR _ ?_); (try (clear hG; clear Kg)); clear hN hX hR; clear Kv) | ((conv => whnf); first | (with_reducible first | rfl | exact True.intro | intro _ | refine And.intro ?_ ?_) | ((with_reducible first | refine hN _ ?_ | refine hX _ _ ?_ | refine hR _ ?_); (try (clear hG; clear Kg)); clear hN hX hR; clear Kv) | (with_reducible first | refine BdS (fun Kv hN hX hR => ?_) | refine Stop.mk ?_ | refine Join.mk ⟨fun Kv hN hX hR => ?_, ?_⟩ | refine DrawJ.each ?_ | exact SubJ.self _) | with_reducible refine SubJ.of ?_ | (with_reducible first | refine FlS (fun Kf hF => ?_) | refine FlN ?_ | refine NdS (fun Kg hG => ?_) | (refine hF _ _ ?_; clear hF; clear Kf) | (refine hG _ _ _ _ ?_; clear hG; clear Kg))))); all_goals (conv => whnf); all_goals (repeat ((try (clear hG; clear Kg)); clear hN hX hR; clear Kv))
  all_goals first
    | (exfalso; simp_all; done)
    | (simp only [decide_eq_true_eq, decide_eq_false_iff_not] at *
       simp [cmpI, *]
       done)
    | (simp only [decide_eq_true_eq, decide_eq_false_iff_not] at *
       unfold cmpI
       split
       · omega
       · split <;> omega)
/-- Of elements that rise: how many are ahead, and whether it is there. -/
theorem search_end {α : Type} {d : α} {l : List α} {κ : α → Int} {K : Int} {i : Nat} (hi : i ≤ l.length) (h1 : ∀ t, t < i → κ (l.getD t d) < K) (h2 : ∀ t, i ≤ t → t < l.length → K ≤ κ (l.getD t d)) : l.countP (fun x => decide (κ x < K)) = i := by
  have e : l = l.take i ++ l.drop i := (List.take_append_drop i l).symm
  have a1 : (l.take i).countP (fun x => decide (κ x < K)) = i := by
    rw [List.countP_eq_length.2, List.length_take, Nat.min_eq_left hi]
    intro x hx
    obtain ⟨t, ht, rfl⟩ := List.mem_take_iff_getElem.1 hx
    have := h1 t (by omega)
    simp only [List.getD_eq_getElem?_getD] at this
    rw [List.getElem?_eq_getElem (by omega)] at this
    simpa using this
  have a2 : (l.drop i).countP (fun x => decide (κ x < K)) = 0 := by
    rw [List.countP_eq_zero]
    intro x hx
    obtain ⟨t, ht, rfl⟩ := List.mem_drop_iff_getElem.1 hx
    have := h2 (i + t) (by omega) (by omega)
    simp only [List.getD_eq_getElem?_getD] at this
    rw [List.getElem?_eq_getElem (by omega)] at this
    simp at this ⊢
    exact this
  conv => lhs; rw [e]
  rw [List.countP_append, a1, a2]
  rfl
theorem search_there {α : Type} {d : α} {l : List α} {κ : α → Int} {K : Int} {i : Nat} (hs : ∀ s t, s < t → t < l.length → κ (l.getD s d) < κ (l.getD t d)) (h1 : ∀ t, t < i → κ (l.getD t d) < K) (h2 : ∀ t, i ≤ t → t < l.length → K ≤ κ (l.getD t d)) : l.any (fun x => decide (κ x = K)) = (decide (i < l.length) && decide (κ (l.getD i d) = K)) := by
  by_cases h : i < l.length ∧ κ (l.getD i d) = K
  · rw [decide_eq_true h.1, decide_eq_true h.2]
    refine List.any_eq_true.2 ⟨l.getD i d, getD_mem h.1, by simpa using h.2⟩
  · have : l.any (fun x => decide (κ x = K)) = false := by
      rw [List.any_eq_false]
      intro x hx hk
      obtain ⟨t, ht, rfl⟩ := List.mem_iff_getElem.1 hx
      have e : l.getD t d = l[t] := by simp [List.getD_eq_getElem?_getD, ht]
      have hk : κ (l.getD t d) = K := by rw [e]; simpa using hk
      rcases Nat.lt_trichotomy t i with h3 | h3 | h3
      · have := h1 t h3; omega
      · subst h3; exact h ⟨ht, hk⟩
      · have := hs i t h3 ht
        have := h2 i (Nat.le_refl _) (by omega)
        omega
    rw [this]
    by_cases h3 : i < l.length
    · have h4 : ¬ κ (l.getD i d) = K := fun h4 => h ⟨h3, h4⟩
      rw [decide_eq_false h4, Bool.and_false]
    · rw [decide_eq_false h3, Bool.false_and]
/-- The middle. -/
theorem mid_ok {i j n : Nat} (h : i < j) (hj : j ≤ n) (hn : n ≤ 17592186044416) : ∃ h : Nat, IntKind.i64.wrap (IntKind.u64.wrap (IntKind.i64.wrap ((i : Int) + (j : Int))) / 2 ^ (1 : Int).toNat) = (h : Int) ∧ i ≤ h ∧ h < j := by
  refine ⟨(i + j) / 2, ?_, by omega, by omega⟩
  rw [wrapI (n := (i : Int) + j) (by omega) (by omega), wu64]
  have e : (2 : Int) ^ (1 : Int).toNat = 2 := by decide
  rw [e, wrapI (by omega) (by omega)]
  omega
def Rising (l : List Int) : Prop := ∀ s t, s < t → t < l.length → l.getD s 0 < l.getD t 0
theorem k_cmpLess : Known Try.prog tau 77 (S2 dInt dInt fun a b => okB (decide (a < b))) := by
  refine known2 hmix tau_ok (ctx_cons k_cmpNaN ctx_nil) (fn := Try.f77) (by kernel_rfl) [] (by kernel_rfl) _ _ _ fun a b hfit => ⟨rfl, [], ?_⟩
  (repeat' (first | ((with_reducible refine BdI ?_); (first | ((with_reducible refine SqI ?_ (fun Kv hN hX hR => ?_)); (next => exact rfl)) | ((with_reducible refine JnI ?_ ?_); (next => exact rfl)) | (conv => whnf))) | (with_reducible first | refine BdS (fun Kv hN hX hR => ?_) | refine Stop.mk ?_ | refine Join.mk ⟨fun Kv hN hX hR => ?_, ?_⟩ | refine DrawJ.each ?_ | exact SubJ.self _) | with_reducible refine SubJ.of ?_ | (with_reducible first | refine FlS (fun Kf hF => ?_) | refine FlN ?_ | refine NdS (fun Kg hG => ?_) | (refine hF _ _ ?_; clear hF; clear Kf) | (refine hG _ _ _ _ ?_; clear hG; clear Kg)) | ((with_reducible refine SqI ?_ (fun Kv hN hX hR => ?_)); (next => exact rfl)) | ((with_reducible refine JnI ?_ ?_); (next => exact rfl)) | ((with_reducible first | refine hN _ ?_ | refine hX _ _ ?_ | refine hR _ ?_); (try (clear hG; clear Kg)); clear hN hX hR; clear Kv) | ((conv => whnf); first | (with_reducible first | rfl | exact True.intro | intro _ | refine And.intro ?_ ?_) | ((with_reducible first | refine hN _ ?_ | refine hX _ _ ?_ | refine hR _ ?_); (try (clear hG; clear Kg)); clear hN hX hR; clear Kv) | (with_reducible first | refine BdS (fun Kv hN hX hR => ?_) | refine Stop.mk ?_ | refine Join.mk ⟨fun Kv hN hX hR => ?_, ?_⟩ | refine DrawJ.each ?_ | exact SubJ.self _) | with_reducible refine SubJ.of ?_ | (with_reducible first | refine FlS (fun Kf hF => ?_) | refine FlN ?_ | refine NdS (fun Kg hG => ?_) | (refine hF _ _ ?_; clear hF; clear Kf) | (refine hG _ _ _ _ ?_; clear hG; clear Kg))))); all_goals (conv => whnf); all_goals (repeat ((try (clear hG; clear Kg)); clear hN hX hR; clear Kv))
  all_goals simp_all
theorem k_sNaN : Known Try.prog tau 78 (S1 dInt fun a => okB false) := by
  refine known1 hmix tau_ok ctx_nil (fn := Try.f78) (by kernel_rfl) [] (by kernel_rfl) _ _ fun a hfit => ⟨rfl, [], ?_⟩
  (repeat' (first | ((with_reducible refine BdI ?_); (first | ((with_reducible refine SqI ?_ (fun Kv hN hX hR => ?_)); (next => exact rfl)) | ((with_reducible refine JnI ?_ ?_); (next => exact rfl)) | (conv => whnf))) | (with_reducible first | refine BdS (fun Kv hN hX hR => ?_) | refine Stop.mk ?_ | refine Join.mk ⟨fun Kv hN hX hR => ?_, ?_⟩ | refine DrawJ.each ?_ | exact SubJ.self _) | with_reducible refine SubJ.of ?_ | (with_reducible first | refine FlS (fun Kf hF => ?_) | refine FlN ?_ | refine NdS (fun Kg hG => ?_) | (refine hF _ _ ?_; clear hF; clear Kf) | (refine hG _ _ _ _ ?_; clear hG; clear Kg)) | ((with_reducible refine SqI ?_ (fun Kv hN hX hR => ?_)); (next => exact rfl)) | ((with_reducible refine JnI ?_ ?_); (next => exact rfl)) | ((with_reducible first | refine hN _ ?_ | refine hX _ _ ?_ | refine hR _ ?_); (try (clear hG; clear Kg)); clear hN hX hR; clear Kv) | ((conv => whnf); first | (with_reducible first | rfl | exact True.intro | intro _ | refine And.intro ?_ ?_) | ((with_reducible first | refine hN _ ?_ | refine hX _ _ ?_ | refine hR _ ?_); (try (clear hG; clear Kg)); clear hN hX hR; clear Kv) | (with_reducible first | refine BdS (fun Kv hN hX hR => ?_) | refine Stop.mk ?_ | refine Join.mk ⟨fun Kv hN hX hR => ?_, ?_⟩ | refine DrawJ.each ?_ | exact SubJ.self _) | with_reducible refine SubJ.of ?_ | (with_reducible first | refine FlS (fun Kf hF => ?_) | refine FlN ?_ | refine NdS (fun Kg hG => ?_) | (refine hF _ _ ?_; clear hF; clear Kf) | (refine hG _ _ _ _ ?_; clear hG; clear Kg))))); all_goals (conv => whnf); all_goals (repeat ((try (clear hG; clear Kg)); clear hN hX hR; clear Kv))
  simp
/-- A binary search: the index's round. -/
theorem wrap_up {h n : Nat} (hh : h < n) (hn : n ≤ 17592186044416) : IntKind.i64.wrap ((h : Int) + 1) = ((h + 1 : Nat) : Int) := by
  rw [wrapI (by omega) (by omega)]; omega
theorem rising_lt {l : List Int} (hs : Rising l) {s t : Nat} (h : s ≤ t) (ht : t < l.length) : l.getD s 0 ≤ l.getD t 0 := by
  rcases Nat.lt_or_eq_of_le h with h | rfl
  · exact Int.le_of_lt (hs s t h ht)
  · exact Int.le_refl _
def cntI (l : List Int) (x : Int) : Int := ((l.countP fun y => decide (y < x) : Nat) : Int)
def hasI (l : List Int) (x : Int) : Bool := l.any fun y => decide (y = x)
theorem k_search : Known Try.prog tau 62 (S2 dInts dInt fun l x => .ob (Rising l) (.tup [.int .i64 (cntI l x), .bool (hasI l x)]) []) := by
  refine known2 hmix tau_ok (ctx_cons k_cmpLess (ctx_cons k_sNaN ctx_nil)) (fn := Try.f62) (by kernel_rfl) [] (by kernel_rfl) _ _ _ fun l x hfit hs => ⟨rfl,
    [(3, invX (Nat × Nat) [7, 8, 9, 13, 14, 15, 16, 17, 18, 19, 20, 21, 22, 23, 24, 25, 26, 27, 28, 29, 30] [] (fun g => g.1 ≤ g.2 ∧ g.2 ≤ l.length ∧ (∀ t, t < g.1 → l.getD t 0 < x) ∧ ∀ t, g.2 ≤ t → t < l.length → x ≤ l.getD t 0) (fun g => withS [(7, .int .i64 g.1), (8, .int .i64 g.2)]) (fun g => g.2 - g.1))], ?_⟩
  have hlen : l.length * 8 ≤ 140737488355328 := hfit.1
  clear hfit
  (repeat' (first | ((with_reducible refine BdI ?_); (first | ((with_reducible refine SqI ?_ (fun Kv hN hX hR => ?_)); (next => exact rfl)) | ((with_reducible refine JnI ?_ ?_); (next => exact rfl)) | (conv => whnf))) | (with_reducible first | refine BdS (fun Kv hN hX hR => ?_) | refine Stop.mk ?_ | refine Join.mk ⟨fun Kv hN hX hR => ?_, ?_⟩ | refine DrawJ.each ?_ | exact SubJ.self _) | with_reducible refine SubJ.of ?_ | (with_reducible first | refine FlS (fun Kf hF => ?_) | refine FlN ?_ | refine NdS (fun Kg hG => ?_) | (refine hF _ _ ?_; clear hF; clear Kf) | (refine hG _ _ _ _ ?_; clear hG; clear Kg)) | ((with_reducible refine SqI ?_ (fun Kv hN hX hR => ?_)); (next => exact rfl)) | ((with_reducible refine JnI ?_ ?_); (next => exact rfl)) | ((with_reducible first | refine hN _ ?_ | refine hX _ _ ?_ | refine hR _ ?_); (try (clear hG; clear Kg)); clear hN hX hR; clear Kv) | ((conv => whnf); first | (with_reducible first | rfl | exact True.intro | refine (fun (_ : (_ : Prop)) => ?_) | refine And.intro ?_ ?_) | ((with_reducible first | refine hN _ ?_ | refine hX _ _ ?_ | refine hR _ ?_); (try (clear hG; clear Kg)); clear hN hX hR; clear Kv) | (with_reducible first | refine BdS (fun Kv hN hX hR => ?_) | refine Stop.mk ?_ | refine Join.mk ⟨fun Kv hN hX hR => ?_, ?_⟩ | refine DrawJ.each ?_ | exact SubJ.self _) | with_reducible refine SubJ.of ?_ | (with_reducible first | refine FlS (fun Kf hF => ?_) | refine FlN ?_ | refine NdS (fun Kg hG => ?_) | (refine hF _ _ ?_; clear hF; clear Kf) | (refine hG _ _ _ _ ?_; clear hG; clear Kg))))); all_goals (conv => whnf); all_goals (repeat ((try (clear hG; clear Kg)); clear hN hX hR; clear Kv))
  all_goals first
    | (refine ⟨(0, l.length), ⟨Nat.zero_le _, Nat.le_refl _, by intros; omega, by intros; omega⟩, ?_⟩
       (repeat' (first | ((with_reducible refine BdI ?_); (first | ((with_reducible refine SqI ?_ (fun Kv hN hX hR => ?_)); (next => exact rfl)) | ((with_reducible refine JnI ?_ ?_); (next => exact rfl)) | (conv => whnf))) | (with_reducible first | refine BdS (fun Kv hN hX hR => ?_) | refine Stop.mk ?_ | refine Join.mk ⟨fun Kv hN hX hR => ?_, ?_⟩ | refine DrawJ.each ?_ | exact SubJ.self _) | with_reducible refine SubJ.of ?_ | (with_reducible first | refine FlS (fun Kf hF => ?_) | refine FlN ?_ | refine NdS (fun Kg hG => ?_) | (refine hF _ _ ?_; clear hF; clear Kf) | (refine hG _ _ _ _ ?_; clear hG; clear Kg)) | ((with_reducible refine SqI ?_ (fun Kv hN hX hR => ?_)); (next => exact rfl)) | ((with_reducible refine JnI ?_ ?_); (next => exact rfl)) | ((with_reducible first | refine hN _ ?_ | refine hX _ _ ?_ | refine hR _ ?_); (try (clear hG; clear Kg)); clear hN hX hR; clear Kv) | ((conv => whnf); first | (with_reducible first | rfl | exact True.intro | intro _ | refine And.intro ?_ ?_) | ((with_reducible first | refine hN _ ?_ | refine hX _ _ ?_ | refine hR _ ?_); (try (clear hG; clear Kg)); clear hN hX hR; clear Kv) | (with_reducible first | refine BdS (fun Kv hN hX hR => ?_) | refine Stop.mk ?_ | refine Join.mk ⟨fun Kv hN hX hR => ?_, ?_⟩ | refine DrawJ.each ?_ | exact SubJ.self _) | with_reducible refine SubJ.of ?_ | (with_reducible first | refine FlS (fun Kf hF => ?_) | refine FlN ?_ | refine NdS (fun Kg hG => ?_) | (refine hF _ _ ?_; clear hF; clear Kf) | (refine hG _ _ _ _ ?_; clear hG; clear Kg))))); all_goals (conv => whnf); all_goals (repeat ((try (clear hG; clear Kg)); clear hN hX hR; clear Kv))
       all_goals rfl)
    | (rintro ⟨i, j⟩ ⟨hij, hj, h1, h2⟩
       dsimp only at hij hj h1 h2
       (repeat' (first | ((with_reducible refine BdI ?_); (first | ((with_reducible refine SqI ?_ (fun Kv hN hX hR => ?_)); (next => exact rfl)) | ((with_reducible refine JnI ?_ ?_); (next => exact rfl)) | (conv => whnf))) | (with_reducible first | refine BdS (fun Kv hN hX hR => ?_) | refine Stop.mk ?_ | refine Join.mk ⟨fun Kv hN hX hR => ?_, ?_⟩ | refine DrawJ.each ?_ | exact SubJ.self _) | with_reducible refine SubJ.of ?_ | (with_reducible first | refine FlS (fun Kf hF => ?_) | refine FlN ?_ | refine NdS (fun Kg hG => ?_) | (refine hF _ _ ?_; clear hF; clear Kf) | (refine hG _ _ _ _ ?_; clear hG; clear Kg)) | ((with_reducible refine SqI ?_ (fun Kv hN hX hR => ?_)); (next => exact rfl)) | ((with_reducible refine JnI ?_ ?_); (next => exact rfl)) | ((with_reducible first | refine hN _ ?_ | refine hX _ _ ?_ | refine hR _ ?_); (try (clear hG; clear Kg)); clear hN hX hR; clear Kv) | ((conv => whnf); first | (with_reducible first | rfl | exact True.intro | intro _ | refine And.intro ?_ ?_) | ((with_reducible first | refine hN _ ?_ | refine hX _ _ ?_ | refine hR _ ?_); (try (clear hG; clear Kg)); clear hN hX hR; clear Kv) | (with_reducible first | refine BdS (fun Kv hN hX hR => ?_) | refine Stop.mk ?_ | refine Join.mk ⟨fun Kv hN hX hR => ?_, ?_⟩ | refine DrawJ.each ?_ | exact SubJ.self _) | with_reducible refine SubJ.of ?_ | (with_reducible first | refine FlS (fun Kf hF => ?_) | refine FlN ?_ | refine NdS (fun Kg hG => ?_) | (refine hF _ _ ?_; clear hF; clear Kf) | (refine hG _ _ _ _ ?_; clear hG; clear Kg))))); all_goals (conv => whnf); all_goals (repeat ((try (clear hG; clear Kg)); clear hN hX hR; clear Kv))
       all_goals (try dsimp only at *)
       all_goals first
         | (refine Ob.mk ?_; decide)
         | (have hlt := of_decide_eq_true (show decide ((i : Int) < (j : Int)) = true by with_reducible assumption)
            obtain ⟨h, eh, h3, h4⟩ := mid_ok (i := i) (j := j) (n := l.length) (by omega) hj (by omega)
            simp only [eh, Int.toNat_natCast] at *
            first
              | exact Ob.mk ⟨by omega, by omega⟩
              | (have hc := of_decide_eq_true (show decide (l.getD h 0 < x) = true by with_reducible assumption)
                 refine ⟨(h + 1, j), ⟨by omega, hj, fun t ht => ?_, h2⟩, by show j - (h + 1) < j - i; omega, ?_⟩
                 · have := rising_lt hs (s := t) (t := h) (by omega) (by omega)
                   omega
                 · have e1 := wrap_up (h := h) (n := l.length) (by omega) (by omega)
                   (repeat' (first | ((with_reducible refine BdI ?_); (first | ((with_reducible refine SqI ?_ (fun Kv hN hX hR => ?_)); (next => exact rfl)) | ((with_reducible refine JnI ?_ ?_); (next => exact rfl)) | (conv => whnf))) | (with_reducible first | refine BdS (fun Kv hN hX hR => ?_) | refine Stop.mk ?_ | refine Join.mk ⟨fun Kv hN hX hR => ?_, ?_⟩ | refine DrawJ.each ?_ | exact SubJ.self _) | with_reducible refine SubJ.of ?_ | (with_reducible first | refine FlS (fun Kf hF => ?_) | refine FlN ?_ | refine NdS (fun Kg hG => ?_) | (refine hF _ _ ?_; clear hF; clear Kf) | (refine hG _ _ _ _ ?_; clear hG; clear Kg)) | ((with_reducible refine SqI ?_ (fun Kv hN hX hR => ?_)); (next => exact rfl)) | ((with_reducible refine JnI ?_ ?_); (next => exact rfl)) | ((with_reducible first | refine hN _ ?_ | refine hX _ _ ?_ | refine hR _ ?_); (try (clear hG; clear Kg)); clear hN hX hR; clear Kv) | ((conv => whnf); first | (with_reducible first | rfl | exact True.intro | intro _ | refine And.intro ?_ ?_) | ((with_reducible first | refine hN _ ?_ | refine hX _ _ ?_ | refine hR _ ?_); (try (clear hG; clear Kg)); clear hN hX hR; clear Kv) | (with_reducible first | refine BdS (fun Kv hN hX hR => ?_) | refine Stop.mk ?_ | refine Join.mk ⟨fun Kv hN hX hR => ?_, ?_⟩ | refine DrawJ.each ?_ | exact SubJ.self _) | with_reducible refine SubJ.of ?_ | (with_reducible first | refine FlS (fun Kf hF => ?_) | refine FlN ?_ | refine NdS (fun Kg hG => ?_) | (refine hF _ _ ?_; clear hF; clear Kf) | (refine hG _ _ _ _ ?_; clear hG; clear Kg))))); all_goals (conv => whnf); all_goals (repeat ((try (clear hG; clear Kg)); clear hN hX hR; clear Kv))
                   all_goals first
                     | exact e1
                     | rfl)
              | (have hc := of_decide_eq_false (show decide (l.getD h 0 < x) = false by with_reducible assumption)
                 refine ⟨(i, h), ⟨by omega, by omega, h1, fun t ht ht2 => ?_⟩, by show h - i < j - i; omega, ?_⟩
                 · have := rising_lt hs (s := h) (t := t) ht ht2
                   omega
                 · (repeat' (first | ((with_reducible refine BdI ?_); (first | ((with_reducible refine SqI ?_ (fun Kv hN hX hR => ?_)); (next => exact rfl)) | ((with_reducible refine JnI ?_ ?_); (next => exact rfl)) | (conv => whnf))) | (with_reducible first | refine BdS (fun Kv hN hX hR => ?_) | refine Stop.mk ?_ | refine Join.mk ⟨fun Kv hN hX hR => ?_, ?_⟩ | refine DrawJ.each ?_ | exact SubJ.self _) | with_reducible refine SubJ.of ?_ | (with_reducible first | refine FlS (fun Kf hF => ?_) | refine FlN ?_ | refine NdS (fun Kg hG => ?_) | (refine hF _ _ ?_; clear hF; clear Kf) | (refine hG _ _ _ _ ?_; clear hG; clear Kg)) | ((with_reducible refine SqI ?_ (fun Kv hN hX hR => ?_)); (next => exact rfl)) | ((with_reducible refine JnI ?_ ?_); (next => exact rfl)) | ((with_reducible first | refine hN _ ?_ | refine hX _ _ ?_ | refine hR _ ?_); (try (clear hG; clear Kg)); clear hN hX hR; clear Kv) | ((conv => whnf); first | (with_reducible first | rfl | exact True.intro | intro _ | refine And.intro ?_ ?_) | ((with_reducible first | refine hN _ ?_ | refine hX _ _ ?_ | refine hR _ ?_); (try (clear hG; clear Kg)); clear hN hX hR; clear Kv) | (with_reducible first | refine BdS (fun Kv hN hX hR => ?_) | refine Stop.mk ?_ | refine Join.mk ⟨fun Kv hN hX hR => ?_, ?_⟩ | refine DrawJ.each ?_ | exact SubJ.self _) | with_reducible refine SubJ.of ?_ | (with_reducible first | refine FlS (fun Kf hF => ?_) | refine FlN ?_ | refine NdS (fun Kg hG => ?_) | (refine hF _ _ ?_; clear hF; clear Kf) | (refine hG _ _ _ _ ?_; clear hG; clear Kg))))); all_goals (conv => whnf); all_goals (repeat ((try (clear hG; clear Kg)); clear hN hX hR; clear Kv))
                   all_goals rfl))
         | (have hge := of_decide_eq_false (show decide ((i : Int) < (j : Int)) = false by with_reducible assumption)
            obtain rfl : i = j := by omega
            have e1 : cntI l x = (i : Int) := congrArg Int.ofNat (search_end (d := 0) (κ := fun y => y) (K := x) hj h1 h2)
            have e2 : hasI l x = (decide (i < l.length) && decide (l.getD i 0 = x)) := search_there (d := 0) (κ := fun y => y) hs h1 h2
            (try simp only [Int.toNat_natCast] at *)
            first
              | exact Ob.mk ⟨by omega, of_decide_eq_true (by with_reducible assumption)⟩
              | exact e1.symm
              | (have a2 := of_decide_eq_true (show decide (l.getD i 0 = x) = true by with_reducible assumption)
                 have a1 := of_decide_eq_true (show decide ((i : Int) < (l.length : Nat)) = true by with_reducible assumption)
                 rw [e2, decide_eq_true a2, decide_eq_true (show i < l.length by omega)]
                 rfl)
              | (have a2 := of_decide_eq_false (show decide (l.getD i 0 = x) = false by with_reducible assumption)
                 rw [e2, decide_eq_false a2, Bool.and_false])
              | (have a1 := of_decide_eq_false (show decide ((i : Int) < (l.length : Nat)) = false by with_reducible assumption)
                 rw [e2, decide_eq_false (show ¬ i < l.length by omega), Bool.false_and])))
end Go.Proofs.Ytaapoiikbolgnaa

/- Small laws of lists. -/
namespace Go.Proofs.Ytaapoiikbolgnaa
open Go.RowKit

/-- Where the first one is of which p holds; -1: nowhere. -/
def idxI {α : Type} (p : α → Bool) (l : List α) : Int := match l.findIdx? p with
  | some i => (i : Int)
  | none => -1
theorem idxI_at {α : Type} {p : α → Bool} {l : List α} {i : Nat} {d : α} (hi : i < l.length) (h : ∀ x ∈ l.take i, p x = false) (hp : p (l.getD i d) = true) : idxI p l = i := by
  have : l.findIdx? p = some i := by
    rw [List.findIdx?_eq_some_iff_getElem]
    refine ⟨hi, by simpa [List.getD_eq_getElem?_getD, hi] using hp, fun j hj => ?_⟩
    have := h l[j] (by
      rw [List.mem_take_iff_getElem]
      exact ⟨j, by omega, rfl⟩)
    simpa using this
  simp [idxI, this]
theorem idxI_none {α : Type} {p : α → Bool} {l : List α} (h : ∀ x ∈ l, p x = false) : idxI p l = -1 := by
  have : l.findIdx? p = none := by simpa [List.findIdx?_eq_none_iff] using h
  simp [idxI, this]
theorem idxI_ge {α : Type} (p : α → Bool) (l : List α) : decide (0 ≤ idxI p l) = l.any p := by
  cases h : l.any p with
  | true =>
    have : l.findIdx? p ≠ none := by
      intro e
      rw [List.findIdx?_eq_none_iff] at e
      simp only [List.any_eq_true] at h
      obtain ⟨x, hx, hp⟩ := h
      rw [e x hx] at hp
      simp at hp
    obtain ⟨i, hi⟩ := Option.ne_none_iff_exists'.1 this
    simp [idxI, hi]
  | false =>
    rw [idxI_none (fun x hx => by
      have := List.any_eq_false.1 h x hx
      simpa using this)]
    rfl
theorem any_not {α : Type} (p : α → Bool) (l : List α) : (l.any fun m => !p m) = !l.all p := by
  induction l with
  | nil => rfl
  | cons x l ih => simp [ih]
theorem nf {b : Bool} (h : (!b) = true) : b = false := by simpa using h
theorem nt {b : Bool} (h : (!b) = false) : b = true := by simpa using h
end Go.Proofs.Ytaapoiikbolgnaa

/- A symbolic executor for loaded Go code: strings and their bytes. -/
namespace Go.Proofs.Ytaapoiikbolgnaa
open Go.RowKit

/-- The string of some bytes. -/
def bs (l : List Int) : ByteArray := ⟨(bytesOf l).toArray⟩
end Go.Proofs.Ytaapoiikbolgnaa

/- A symbolic executor for loaded Go code: the library's Clone. -/
namespace Go.Proofs.Ytaapoiikbolgnaa
open Go.RowKit

section
variable {P : Program} {τ : Tys} {w0 : World} {E : Env} {w : World} {s : St} {bs : List (Array Value)}
theorem src_one {F : Nat → Prop} {r : Rw} {news : List Value} (hnl : news.length = r.len * r.sz) (hcd : ∀ i j x, i < r.len → (r.cell .any i)[j]? = some x → ∃ u, news[i * r.sz + j]? = some u ∧ cd1 w F x u) : ∀ u ∈ news, u.oneCell' = true := by
  intro u hu
  obtain ⟨m, hm, rfl⟩ := List.getElem_of_mem hu
  have hsp := sz_pos r
  have hm' : m < r.len * r.sz := by rw [← hnl]; exact hm
  have hi : m / r.sz < r.len := Nat.div_lt_of_lt_mul (by rw [Nat.mul_comm]; exact hm')
  have hj : m % r.sz < (r.cell .any (m / r.sz)).length := by rw [cell_len]; exact Nat.mod_lt _ hsp
  obtain ⟨u, hu, hd⟩ := hcd _ _ _ hi (List.getElem?_eq_getElem hj)
  rw [show m / r.sz * r.sz + m % r.sz = m by rw [Nat.mul_comm]; exact Nat.div_add_mod m r.sz, List.getElem?_eq_getElem hm] at hu
  injection hu with hu
  rw [hu]
  generalize (r.cell .any (m / r.sz))[m % r.sz] = q at hd
  cases q <;> first
    | exact hd.elim
    | (obtain rfl : u = _ := hd; rfl)
    | (obtain ⟨_, A, c, rfl, _⟩ := hd; rfl)
/-- What is known of slices.Clone at one type: its walk. -/
structure CloneW (P : Program) (f : FuncId) (e : TypeId) (sz bts : Nat) : Prop where
  ent : Enters P f
  nil : ∀ n c w, Calls P f #[.slice none n c] w fun x w' => x = .returned (.slice none 0 0) ∧ w' = w
  cells : ∀ (ad : Addr) (n c : Nat) (news : List Value) (w : World), news.length = n * sz → n ≤ maxLen → n * bts ≤ 140737488355328 → (∀ j u, news[j]? = some u → w.cell? (ad.add j) = some u) → (∀ u ∈ news, u.oneCell' = true) →
    Calls P f #[.slice (some ad) n c] w fun x w' => ∃ v', x = .returned v' ∧ w'.ownsRow w.heap.size e sz v' n news ∧ Below w.heap.size w w'
theorem bts_pos (r : Rw) : 1 ≤ r.bts := by cases r <;> simp [Rw.bts, Rw.kd, kdBytes]
theorem clone_core {f kd : Nat} (hW : CloneW P f (τ.et kd) (kdSz kd) (kdBytes kd)) (hd : Den τ w0 E s bs w) {x : SV} {v : Value} {t : Tag} {r : Rw} (hx : vd3 E s.rows w x v) (h : srcOf s.rows x = some (t, r)) (hk : r.kd = kd) :
    r.len * r.bts ≤ 140737488355328 ∧ Calls P f #[v] w fun x w' => ∃ v' us, x = .returned v' ∧ w'.ownsRow w.heap.size (τ.et kd) r.sz v' r.len us ∧ Below w.heap.size w w' ∧ ∀ i j x, i < r.len → (r.cell .any i)[j]? = some x → ∃ u, us[i * r.sz + j]? = some u ∧ cd1 w (E.F w t) x u := by
  obtain ⟨A, c, news, rfl, hnc, hfit, hnl, hcell, hcd⟩ := src_ok hd hx h
  refine ⟨hfit, ?_⟩
  have e1 : r.sz = kdSz kd := by unfold Rw.sz; rw [hk]
  have e2 : r.bts = kdBytes kd := by unfold Rw.bts; rw [hk]
  cases A with
  | none =>
    have h0 : r.len = 0 := by
      rcases Nat.eq_zero_or_pos r.len with h0 | h0
      · exact h0
      · obtain ⟨ad, hA, _⟩ := hcell h0; simp at hA
    refine (hW.nil r.len c w).mono ?_
    rintro e w' ⟨rfl, rfl⟩
    refine ⟨_, [], rfl, ?_, Below.refl _ _, fun i j x hi => by omega⟩
    rw [h0]
    exact World.ownsRow_nil _ _ _ _
  | some ad =>
    have hc : ∀ j u, news[j]? = some u → w.cell? (ad.add j) = some u := by
      intro j u hu
      have hlt := (List.getElem?_eq_some_iff.1 hu).1
      have hp : 0 < r.len := by
        rcases Nat.eq_zero_or_pos r.len with h0 | h0
        · rw [hnl, h0] at hlt; simp at hlt
        · exact h0
      obtain ⟨ad', hA, hh⟩ := hcell hp
      injection hA with hA
      subst hA
      exact hh j u hu
    have hb := bts_pos r
    have h63 : r.len ≤ maxLen := by
      have : r.len * 1 ≤ r.len * r.bts := Nat.mul_le_mul_left _ hb
      unfold maxLen
      omega
    refine (hW.cells ad r.len c news w (by rw [hnl, e1]) h63 (by rw [← e2]; exact hfit) hc (src_one hnl hcd)).mono ?_
    rintro e w' ⟨v', rfl, ho, hB⟩
    exact ⟨v', news, rfl, by rw [e1]; exact ho, hB, hcd⟩
theorem start0 (w : World) : Den τ w E0 ⟨[], [], [], [], 0⟩ [#[]] w := by
  refine ⟨Below.refl _ _, Nat.le_refl _, Nat.zero_le _, fun g hg => hg.elim, ?_, ?_, ?_, ?_, ?_, ?_⟩
  · intro i f hf
    cases i with
    | zero => simp at hf; subst hf; exact ⟨_, rfl, fun t => trivial⟩
    | succ i => simp at hf
  · intro k T cs hk; simp [lk] at hk
  · intro k e lo r hk; simp [lk] at hk
  · intro k k' b b' hk; simp [lk] at hk
  · intro k k' b e m hk; simp [lk] at hk
  · intro k k' e e' m m' g hk; simp [lk] at hk
/-- Of a row that leads nowhere: a contract. -/
theorem clone_known {α : Type} (A : Dec α) (R : α → Rw) (hA : ∀ a, A.e a = .row .any (R a)) (hR : ∀ a, (R a).flat = true) {f kd : Nat} (hkd : ∀ a, (R a).kd = kd) (hW : CloneW P f (τ.et kd) (kdSz kd) (kdBytes kd)) :
    Known P τ f (S1 A fun a => .ok (.own 0) [R a]) := by
  refine ⟨hW.ent, ?_⟩
  intro args vals w hargs
  unfold S1
  split
  · rename_i x
    split
    · rename_i a ha
      obtain rfl := A.ok _ _ ha
      obtain ⟨v, vs, rfl, h1, h2⟩ := hargs.inv_cons
      obtain rfl := h2.inv_nil
      rw [hA] at h1
      obtain ⟨hfit, hcall⟩ := clone_core (s := ⟨[], [], [], [], 0⟩) hW (start0 w) h1 (rfl : srcOf [] (.row .any (R a)) = some (.any, R a)) (hkd a)
      refine hcall.mono ?_
      rintro e w' ⟨v', us, rfl, ho, hB, hcd⟩
      refine ⟨v', rfl, hB, ⟨w.heap.size, w.heap.size, fun _ => 0, fun _ => v', fun g => v'.ownBlock = some g⟩, rfl, rfl, fun g hg => ?_, ?_, ?_, ?_⟩
      · exact ho.lt g hg
      · intro i r hi
        have : i = 0 ∧ r = R a := by
          cases i with
          | zero => simp at hi; exact ⟨rfl, hi.symm⟩
          | succ i => simp at hi
        obtain ⟨rfl, rfl⟩ := this
        refine ⟨fun g hg => hg, hfit, us, ?_, fun i j x hi hx => ?_⟩
        · rw [hkd a]; exact ho
        · obtain ⟨u, hu, hd⟩ := hcd i j x hi hx
          exact ⟨u, hu, (flat_sc (hR a) hx _ _ _ _ u).1 hd⟩
      · intro i j ri rj g hi hj hne
        have h1 : i = 0 := by cases i with
          | zero => rfl
          | succ i => simp at hi
        have h2 : j = 0 := by cases j with
          | zero => rfl
          | succ j => simp at hj
        omega
      · rfl
    · trivial
  · trivial
end
end Go.Proofs.Ytaapoiikbolgnaa

/- slices.Clone at one type: its walk. -/
namespace Go.Proofs.Ytaapoiikbolgnaa
open Go.RowKit
set_option maxHeartbeats 1000000 in
theorem w_CloneInts : CloneW Try.prog 63 3 1 8 := by
  obtain ⟨hk10, het, ti, hti, hsz, hby, _⟩ := tau_ok.rk 3 0 (by kernel_rfl)
  obtain ⟨x0, z, g1, g2, g3, g4, g5, g6⟩ := (tau_ok.ti _ ti hti).info
  have g2 : x0.size = 1 := g2.trans hsz
  have g3 : x0.bytes = 8 := g3.trans hby
  have g5 : z.cells.size = 1 := g5.trans hsz
  clear hk10 het g6
  have t22 : Try.prog.underlying 22 = some (.slice 3) := Try.underlying22
  have q22 : ∀ (w : World) (a : Option Addr) (n c n' c' : Nat), (binOp .eql 22 (.slice a n c) (.slice none n' c')).run Try.prog w = .ok (.bool a.isNone) w := fun w a n c n' c' => Lib.run_eql_slice_nil w _ _ a n c n' c' t22
  refine ⟨fnOk_enters (fn := Try.f63) (D := []) (by kernel_rfl) (by kernel_rfl), fun n c w => ?_, fun ad n c news w hl hn hbig hc h1 => ?_⟩
  · go_enter Try.func63, Try.ntmps63
    go_wp2
    go_ret
    exact ⟨rfl, rfl⟩
  · have A : Aside (∀ j u, news[j]? = some u → w.cell? (ad.add j) = some u) := hc
    clear hc
    go_enter Try.func63, Try.ntmps63
    go_wp2_with (at_builtin; refine wpList_append_own _ rfl _ _ 22 rfl w.heap.size 3 x0 z 1 8 t22 g1 g4 g2 g3 g5 (by decide) _ _ _ rfl (World.ownsRow_made w #[] 0 (Nat.le_refl _) (Nat.zero_le _) (by simp)) ad n c news rfl ?qc1 ?qc2 ?qc3 ?qc4 ?qc5 ?qc6 ?_)
    case qc1 => exact hl
    case qc2 =>
      intro j u hj
      exact Lib.cell?_alloc_some _ (A.out j u hj)
    case qc3 => exact h1
    case qc4 => rw [Nat.zero_add]; exact hn
    case qc5 => rw [Nat.zero_add]; exact hbig
    case qc6 => simp
    intro v' w1 hown hgrow hnil
    go_wp2
    go_ret
    refine ⟨v', rfl, by simpa using hown, ?_⟩
    exact ((Below.refl _ w).alloc (Nat.le_refl _) _).grown hgrow (by simp) (by intro k hk; simp [Value.ownBlock] at hk; omega)
theorem k_CloneInts : Known Try.prog tau 63 (S1 dInts fun l => .ok (.own 0) [.ints l]) := clone_known dInts .ints (fun _ => rfl) (fun _ => rfl) (kd := 0) (fun _ => rfl) w_CloneInts
end Go.Proofs.Ytaapoiikbolgnaa

/- A symbolic executor for loaded Go code: rows of one's own that the library turns: Delete, Insert. -/
namespace Go.Proofs.Ytaapoiikbolgnaa
open Go.RowKit Go.Sort

/-! ### 1. A block's cells, laid -/
section
variable {P : Program} {w : World}
theorem putRow_heap {g : Nat} {cur F : Array Value} {e : TypeId} (h : w.heap[g]? = some (.cells cur e (0, 0))) (hs : F.size = cur.size) : (putRow id w g 0 F).heap[g]? = some (.cells F e (0, 0)) := by
  unfold putRow mapBlock
  simp only [Array.getElem?_modify, if_true, h, Option.map_some, onCells]
  congr 2
  unfold putCells
  refine Array.ext (by simp [hs]) fun t h1 h2 => ?_
  simp only [Array.getElem_mapIdx, Nat.zero_le, true_and, Nat.zero_add, Nat.sub_zero, id]
  rw [if_pos (by omega)]
  simp [h2]
theorem putRow_grown (w : World) (g : Nat) (F : Array Value) : w.grownBy (putRow id w g 0 F) (some g) := by
  refine ⟨rfl, rfl, rfl, by simp [putRow, mapBlock], fun k hk hne => ?_⟩
  unfold putRow mapBlock
  simp only [Array.getElem?_modify]
  rw [if_neg (fun e => hne (by rw [e]))]
theorem holds_of_heap {g : Nat} {cur : Array Value} {e : TypeId} (h : w.heap[g]? = some (.cells cur e (0, 0))) : Holds id w g 0 cur := by
  intro j hj
  refine ⟨?_, ?_⟩
  · simp only [World.cell?, h, Nat.zero_add, id]
    rw [getElem!_pos cur j hj]
    simp [hj]
  · simp [World.frozen?, h]
/-- Cells, from place s on, laid over by others. -/
def layC (F : Array Value) (s : Nat) (vs : List Value) : Array Value := (F.toList.take s ++ vs ++ F.toList.drop (s + vs.length)).toArray
theorem layC_size {F : Array Value} {s : Nat} {vs : List Value} (h : s + vs.length ≤ F.size) : (layC F s vs).size = F.size := by
  simp [layC]
  omega
theorem layC_cons (F : Array Value) (s : Nat) (v : Value) (vs : List Value) (h : s + (v :: vs).length ≤ F.size) : layC (F.setIfInBounds s v) (s + 1) vs = layC F s (v :: vs) := by
  have h : s < F.toList.length := by simp at h ⊢; omega
  unfold layC
  congr 1
  rw [Array.toList_setIfInBounds]
  rw [List.take_succ_eq_append_getElem (by simpa using h), List.take_set_of_le (Nat.le_refl _), List.drop_set_of_lt (by omega)]
  simp only [List.getElem_set_self, List.append_assoc, List.cons_append, List.nil_append, List.length_cons]
  rw [show s + 1 + vs.length = s + (vs.length + 1) by omega]
theorem setCells_layC (w : World) (g : Nat) : ∀ (vs : List Value) (s : Nat) (F : Array Value), s + vs.length ≤ F.size → (putRow id w g 0 F).setCells g s vs = putRow id w g 0 (layC F s vs)
  | [], s, F, _ => by simp [layC, World.setCells]
  | v :: vs, s, F, h => by
    have h1 := putRow_set id w g 0 F s v (by simp at h; omega)
    rw [Nat.zero_add] at h1
    rw [World.setCells]
    have h2 : (putRow id w g 0 F).setCell ⟨g, s, none⟩ v = putRow id w g 0 (F.setIfInBounds s v) := h1
    rw [h2, setCells_layC w g vs (s + 1) _ (by simp at h ⊢; omega), layC_cons F s v vs h]
end
section
variable {P : Program} {τ : Tys}
theorem fit_one {y x : SV} {w : World} {u : Value} (h : Fit y x) (hd : vd0 E0 [] w y u) : u.oneCell' = true := by
  cases x <;> cases y <;> first
    | (obtain rfl : u = _ := hd; rfl)
    | (obtain ⟨_, A, c, rfl, _⟩ := hd; rfl)
    | (obtain ⟨rfl, _⟩ := hd; rfl)
    | exact False.elim h
    | (simp [Fit] at h; done)
/-- The zero value of a row's elements. -/
theorem zero_of (W : World) (hτ : TysOk P τ) {e kd : Nat} (h : τ.rk e = some kd) : ∃ x z, P.info? e = some x ∧ x.size = kdSz kd ∧ x.bytes = kdBytes kd ∧ x.zero = some z ∧ z.cells.size = kdSz kd ∧ (∀ u ∈ z.cells, u.oneCell' = true) ∧ ∀ w, (zeroValue e).run P w = .ok z w := by
  obtain ⟨hk10, het, ti, hti, hsz, hby, hfit, _⟩ := hτ.rk e kd h
  obtain ⟨x, z, g1, g2, g3, g4, g5, g6⟩ := (hτ.ti e ti hti).info
  refine ⟨x, z, g1, g2.trans hsz, g3.trans hby, g4, g5.trans hsz, ?_, fun w => by simp [zeroValue, typeInfo, g1, g4]⟩
  intro u hu
  obtain ⟨j, hj, rfl⟩ := List.getElem_of_mem (Array.mem_def.1 hu)
  have hl := g6 E0 [] W
  obtain ⟨y, hy, hfy⟩ : ∃ y, ti.zero[j]? = some y ∧ y ∈ ti.zero := by
    have hlt : j < ti.zero.length := by rw [hl.1]; exact hj
    exact ⟨_, List.getElem?_eq_getElem hlt, List.getElem_mem hlt⟩
  obtain ⟨u, hu, hd⟩ := hl.2 j y hy
  rw [List.getElem?_eq_getElem hj] at hu
  injection hu with hu
  rw [hu]
  obtain ⟨x', hx'⟩ : ∃ x', ((Rw.zeros kd 1).cell .any 0)[j]? = some x' := by
    have hlt : j < ((Rw.zeros kd 1).cell .any 0).length := by
      rw [← hfit.1, hl.1]; exact hj
    exact ⟨_, List.getElem?_eq_getElem hlt⟩
  obtain ⟨y', hy', hf⟩ := hfit.2 j x' hx'
  rw [hy] at hy'
  injection hy' with hy'
  subst hy'
  exact fit_one hf hd
end
end Go.Proofs.Ytaapoiikbolgnaa

/- A symbolic executor for loaded Go code: slices.Delete. -/
namespace Go.Proofs.Ytaapoiikbolgnaa
open Go.RowKit Go.Sort

/-- What is known of slices.Delete at one type: its walk. -/
structure DelW (P : Program) (f : FuncId) (e : TypeId) (sz : Nat) : Prop where
  ent : Enters P f
  nil : ∀ w, Calls P f #[.slice none 0 0, .int .i64 0, .int .i64 0] w fun x w' => x = .returned (.slice none 0 0) ∧ w' = w
  cells : ∀ (g cap n i j : Nat) (cur : Array Value) (w : World), w.heap[g]? = some (.cells cur e (0, 0)) → cur.size = cap * sz → n ≤ cap → cap ≤ maxLen → i ≤ j → j ≤ n → (∀ u ∈ cur.toList.take (n * sz), u.oneCell' = true) →
    Calls P f #[.slice (some ⟨g, 0, none⟩) n cap, .int .i64 i, .int .i64 j] w fun x w' => x = .returned (.slice (some ⟨g, 0, none⟩) (n - (j - i)) cap) ∧ w.grownBy w' (some g) ∧
      ∃ cur', w'.heap[g]? = some (.cells cur' e (0, 0)) ∧ cur'.size = cur.size ∧ cur'.toList.take ((n - (j - i)) * sz) = (cur.toList.take (n * sz)).take (i * sz) ++ (cur.toList.take (n * sz)).drop (j * sz)
section
variable {P : Program} {τ : Tys}
theorem own_news {E : Env} {w : World} {k : Nat} {r : Rw} (h : OwnD τ E w k r.len r) {us : List Value} (hl : us.length = r.len * r.sz) (hc : ∀ i j x, i < r.len → (r.cell .any i)[j]? = some x → ∃ u, us[i * r.sz + j]? = some u ∧ cd1 w (E.F w (if i < r.len then .new else .any)) x u) : ∀ u ∈ us, u.oneCell' = true :=
  src_one (F := E.F w .new) hl fun i j x hi hx => by
    obtain ⟨u, hu, hd⟩ := hc i j x hi hx
    rw [if_pos hi] at hd
    exact ⟨u, hu, hd⟩
end
end Go.Proofs.Ytaapoiikbolgnaa

/- A symbolic executor for loaded Go code: slices.Insert of one element. -/
namespace Go.Proofs.Ytaapoiikbolgnaa
open Go.RowKit Go.Sort

section
variable {P : Program}
theorem run_copy_k (w : World) (dT sT ty elem : TypeId) (b o dLen dCap : Nat) (a : Addr) (sLen sCap : Nat) (cs : List Value) (hu : P.underlying dT = some (.slice elem)) {x : TypeInfo} (hi : P.info? elem = some x) {sz : Nat} (hs : x.size = sz) {n : Nat} (hn : Nat.min sLen dLen = n) (hl : cs.length = n * sz)
    (hsrc : ∀ j v, cs[j]? = some v → w.cell? (a.add j) = some v) (hc : ∀ j, j < cs.length → (w.cell? ⟨b, o + j, none⟩).isSome = true) (hf : ∀ j, j < cs.length → w.frozen? ⟨b, o + j, none⟩ = false) (h1 : ∀ v ∈ cs, v.oneCell' = true) :
    (Builtin.copy_ #[dT, sT] ty #[.slice (some ⟨b, o, none⟩) dLen dCap, .slice (some a) sLen sCap]).run P w = .ok (goInt n) (w.setCells b o cs) := by
  have hl' := run_loadCells_list (P := P) w a cs hsrc
  have hst := run_storeCells_cells (P := P) b o cs 0 w (by simpa using hc) (by simpa using hf) h1
  subst hs
  simp [Builtin.copy_, run_underlying hu, Builtin.lenOf, Builtin.firstCells, sizeOf, typeInfo, hi, hn, ← hl, hl', hst]
theorem isSome_setC (b : Nat) (vs : List Value) (o : Nat) (w : World) (h : ∀ j, j < vs.length → (w.cell? ⟨b, o + j, none⟩).isSome = true) (k : Nat) (hk : (w.cell? ⟨b, k, none⟩).isSome = true) : ((w.setCells b o vs).cell? ⟨b, k, none⟩).isSome = true := by
  by_cases hin : o ≤ k ∧ k < o + vs.length
  · have := World.cell?_setCells_in b vs o w h (k - o) (by omega)
    rw [show o + (k - o) = k by omega] at this
    rw [this]; rfl
  · rw [World.cell?_setCells_out b vs o w ⟨b, k, none⟩ (fun _ _ => by show k < o ∨ o + vs.length ≤ k; omega)]
    exact hk
theorem setCells_drew (b : Nat) : ∀ (vs : List Value) (o : Nat) (w : World), w.drew.setCells b o vs = (w.setCells b o vs).drew
  | [], _, _ => rfl
  | v :: vs, o, w => setCells_drew b vs (o + 1) (w.setCell ⟨b, o, none⟩ v)
/-- The operation 'copy', where its run is known. -/
theorem wp_copy_k (w : World) {o : Oper} {a : Act} {K : Act → World → Prop} {Q : Exit → Act → World → Prop} (d s : Operand) (t t' : TypeId)
    (ho : o.op = .call { callee := .builtin .copy, args := #[d, s], argTypes := #[t, t'] }) (v u : Value) (hd : a.eval d = v) (hs : a.eval s = u) {v' : Value} {w' : World}
    (hr : (Builtin.copy_ #[t, t'] o.type #[v, u]).run P w = .ok v' w') (h : K (a.put o.dst v') w') : o.wp P a w K Q := by
  unfold Oper.wp execOp
  simp only [ho, resolve, invoke, builtin, Sem.run_bind, Sem.run_pure, Result.andThen_ok, List.map_toArray, List.map_cons, List.map_nil, hd, hs, hr]
  exact h
theorem wpList_copy_k (w : World) {ops : Array Oper} {rest : List Oper} {o : Oper} {a : Act} {Q : Exit → Act → World → Prop} (hgd : o.guard = none) (d s : Operand) (t t' : TypeId)
    (ho : o.op = .call { callee := .builtin .copy, args := #[d, s], argTypes := #[t, t'] }) (v u : Value) (hd : a.eval d = v) (hs : a.eval s = u) {v' : Value} {w' : World}
    (hr : (Builtin.copy_ #[t, t'] o.type #[v, u]).run P w = .ok v' w') (h : wpList P ops Q rest (a.put o.dst v') w') : wpList P ops Q (o :: rest) a w :=
  wpList_plain hgd fun _ hK => wp_copy_k w d s t t' ho v u hd hs hr (hK _ _ h)
theorem step_copy_k {ops : Array Oper} {o : Oper} {a : Act} {w : World} {K : Act → World → Prop} {Q : Exit → Act → World → Prop} {E : Prop}
    (hg : o.guard = none) (d x : Operand) (dT sT : TypeId) (hop : o.op = Op.call { callee := Callee.builtin Builtin.copy, args := #[d, x], argTypes := #[dT, sT] })
    (v u : Value) (hd : a.eval d = v) (hx : a.eval x = u) {v' : Value} {w' : World} (hr : (Builtin.copy_ #[dT, sT] o.type #[v, u]).run P w = .ok v' w') (hK : K (a.put o.dst v') w') :
    if Region.wanted o (yielded ops a.tmps) = true then Oper.wp P o a w K Q else E := by
  have hw : Region.wanted o (yielded ops a.tmps) = true := by simp [Region.wanted, hg]
  rw [if_pos hw]
  exact wp_copy_k w d x dT sT hop v u hd hx hr hK
end
/-- What is known of slices.Insert at one type, one element put in: its walk. -/
structure InsW (P : Program) (f : FuncId) (e : TypeId) (sz bts : Nat) : Prop where
  ent : Enters P f
  run : ∀ (base i n : Nat) (v v2 : Value) (us vs : List Value) (w : World), w.ownsRow base e sz v n us → w.ownsRow base e sz v2 1 vs → (∀ g, v.ownBlock = some g → v2.ownBlock ≠ some g) → i ≤ n → (n + 1) * bts ≤ 140737488355328 → (∀ u ∈ us, u.oneCell' = true) → (∀ u ∈ vs, u.oneCell' = true) → base ≤ w.heap.size →
    Calls P f #[v, .int .i64 i, v2] w fun x w' => ∃ v', x = .returned v' ∧ w'.ownsRow base e sz v' (n + 1) (us.take (i * sz) ++ vs ++ us.drop (i * sz)) ∧ w.grownBy w' v.ownBlock ∧ (v'.ownBlock = v.ownBlock ∨ ∃ g, v'.ownBlock = some g ∧ w.heap.size ≤ g)
/-- Another row, from element i on. -/
def Rw.ins (i : Nat) : Rw → Rw → Option Rw
  | .ints l, .ints m => some (.ints (l.take i ++ m ++ l.drop i))
  | .peers l, .peers m => some (.peers (l.take i ++ m ++ l.drop i))
  | .items l, .items m => some (.items (l.take i ++ m ++ l.drop i))
  | .tolds l, .tolds m => some (.tolds (l.take i ++ m ++ l.drop i))
  | .cuts l, .cuts m => some (.cuts (l.take i ++ m ++ l.drop i))
  | _, _ => none
theorem getD_ins {α : Type} (l m : List α) (i q : Nat) (d : α) (hi : i ≤ l.length) : (l.take i ++ m ++ l.drop i).getD q d = if q < i then l.getD q d else if q < i + m.length then m.getD (q - i) d else l.getD (q - m.length) d := by
  have h1 : (l.take i).length = i := by simp; omega
  simp only [List.getD_eq_getElem?_getD, List.append_assoc]
  split
  · rename_i h
    rw [List.getElem?_append_left (by omega), List.getElem?_take_of_lt h]
  · rename_i h
    rw [List.getElem?_append_right (by omega), h1]
    split
    · rename_i h2
      rw [List.getElem?_append_left (by omega)]
    · rename_i h2
      rw [List.getElem?_append_right (by omega), List.getElem?_drop]
      congr 2
      omega
theorem ins_cell {i : Nat} {r m r' : Rw} (h : r.ins i m = some r') (hi : i ≤ r.len) : r'.kd = r.kd ∧ r'.kd = m.kd ∧ r'.flat = true ∧ r'.len = r.len + m.len ∧ ∀ t q, r'.cell t q = if q < i then r.cell t q else if q < i + m.len then m.cell t (q - i) else r.cell t (q - m.len) := by
  cases r <;> cases m <;> simp only [Rw.ins, Option.some.injEq, reduceCtorEq] at h <;> subst h <;> simp only [Rw.len] at hi <;>
    refine ⟨rfl, rfl, rfl, by simp [Rw.len]; omega, fun t q => ?_⟩ <;> simp only [Rw.cell, Rw.len, getD_ins _ _ _ _ _ hi] <;> rename_i l m <;> (by_cases g1 : q < i) <;> (by_cases g2 : q < i + m.length) <;> simp only [g1, g2, if_true, if_false]
/-- An own row, one element put in. -/
def insertT (kd : Nat) : CallT := fun args s K => match args, s with
  | [.own k, .int .i64 i, .own k2], ⟨fr, stk, bx, rw, dep⟩ => match Nat.beq k k2, lk rw k, lk rw k2 with
    | false, some (.own r), some (.own m) => match Nat.beq r.kd kd, Nat.beq m.len 1, r.ins i.toNat m with
      | true, true, some r' => r.lenK fun n => Ob (0 ≤ i ∧ i ≤ (n : Int) ∧ (n + 1) * r.bts ≤ 140737488355328) ∧ (0 ≤ i ∧ i ≤ (n : Int) ∧ (n + 1) * r.bts ≤ 140737488355328 → forceF (killF k fr) fun fr' => forceS (killS k stk) fun stk' => forceB (killB k bx) fun bx' =>
        K (.own k) ⟨fr', stk', bx', upd rw k (.own r'), dep⟩)
      | _, _, _ => False
    | _, _, _ => False
  | _, _ => False
section
variable {P : Program} {τ : Tys}
theorem insert_tr {f kd : Nat} (hW : InsW P f (τ.et kd) (kdSz kd) (kdBytes kd)) : TrKnown P τ f (insertT kd) := by
  refine ⟨hW.ent, ?_⟩
  intro w0 E s aS w args vals K hd hargs hT
  obtain ⟨fr, stk, bx, rw', dep⟩ := s
  unfold insertT at hT
  split at hT
  rotate_left
  · exact hT.elim
  rename_i s' k i k2 fr' stk' bx' rw2 dep' hs
  injection hs with e1 e2 e3 e4 e5
  subst e1; subst e2; subst e3; subst e4; subst e5
  obtain ⟨v, vs, rfl, h1, h2⟩ := hargs.inv_cons
  obtain ⟨v2, vs, rfl, h3, h2⟩ := h2.inv_cons
  obtain ⟨v3, vs, rfl, h4, h2⟩ := h2.inv_cons
  obtain rfl := h2.inv_nil
  obtain rfl : v2 = .int .i64 i := h3
  split at hT
  rotate_left
  · exact hT.elim
  rename_i r m hkk hk hk2
  have hne : k ≠ k2 := fun e => by subst e; rw [Nat.beq_refl] at hkk; simp at hkk
  have h1 : vd0 E rw' w (.own k) v := h1
  simp only [vd0] at h1
  rw [hk] at h1
  have h1 : v = E.hs k := h1
  subst h1
  have h4 : vd0 E rw' w (.own k2) v3 := h4
  simp only [vd0] at h4
  rw [hk2] at h4
  have h4 : v3 = E.hs k2 := h4
  subst h4
  split at hT
  rotate_left
  · exact hT.elim
  rename_i r' hkd hm1 hins
  have hkd := Nat.eq_of_beq_eq_true hkd
  have hm1 := Nat.eq_of_beq_eq_true hm1
  rw [Rw.lenK_eq] at hT
  obtain ⟨hob, hT⟩ := hT
  have hb := hob.out
  replace hT := hT hb
  simp only [forceF_eq, forceS_eq, forceB_eq] at hT
  obtain ⟨i', rfl⟩ := Int.eq_ofNat_of_zero_le hb.1
  simp only [Int.toNat_natCast] at hins
  have hin : i' ≤ r.len := by omega
  obtain ⟨c1, c2, c3, c4, c5⟩ := ins_cell hins hin
  have hO := hd.own k _ _ _ hk rfl
  have hO2 := hd.own k2 _ _ _ hk2 rfl
  obtain ⟨us, hrow, hc⟩ := hO.row
  obtain ⟨ws, hrow2, hc2⟩ := hO2.row
  have hone := own_news hO hrow.1 hc
  have hone2 := own_news hO2 hrow2.1 hc2
  have hsz : r.sz = kdSz kd := by unfold Rw.sz; rw [hkd]
  have hsz' : r'.sz = r.sz := Rw.sz_of_kd c1
  have hmk : m.kd = kd := by rw [← c2, c1, hkd]
  have hszm : m.sz = r.sz := Rw.sz_of_kd (by rw [← c2, c1])
  have hbts : r.bts = kdBytes kd := by unfold Rw.bts; rw [hkd]
  have hbts' : r'.bts = r.bts := by unfold Rw.bts; rw [c1]
  rw [hm1] at hrow2 c4 c5
  rw [hmk, hszm, hsz] at hrow2
  have hrow' := hrow
  rw [hkd, hsz] at hrow'
  refine (hW.run E.M i' r.len _ _ us ws w hrow' hrow2 (fun g hg => hd.rr k k2 _ _ _ _ g hk hk2 rfl rfl hne hg) hin (by rw [← hbts]; exact hb.2.2) hone hone2 hd.Mh).mono ?_
  rintro e w' ⟨v', rfl, ho, hgr, hblk⟩
  have hkp : Keeps E (E.add k v') w w' := grown_keeps hgr (fun g hg => hO.ow _ hg) rfl (by
    rintro g (hg | hg)
    · exact .inl hg
    · rcases hblk with h5 | ⟨g', h5, h6⟩
      · exact .inl (hO.ow _ (by rw [← h5]; exact hg))
      · rw [h5] at hg; injection hg with hg; exact .inr (by omega))
  refine ⟨_, _, _, E.add k v', rfl, hT, hd.growRow k w' hgr hk rfl v' (.own r') r'.len r' rfl (us.take (i' * kdSz kd) ++ ws ++ us.drop (i' * kdSz kd)) (fun g hg => ?_) ?_ ?_ ?_, rfl, Nat.le_refl _, ?_⟩
  · refine ⟨?_, (ho.lt g hg).2⟩
    rcases hblk with h5 | ⟨g', h5, h6⟩
    · exact .inr (by rw [← h5]; exact hg.symm)
    · rw [h5] at hg; injection hg with hg; exact .inl (by omega)
  · rw [c4, hbts']; exact hb.2.2
  · rw [c1, hsz', hsz, hkd, c4]; exact ho
  · intro p q x hp hx
    rw [c4] at hp
    rw [c5] at hx
    have hul := hrow.1
    have h7 : (us.take (i' * kdSz kd)).length = i' * kdSz kd := by
      rw [List.length_take, hul, hsz]
      exact Nat.min_eq_left (Nat.mul_le_mul_right _ hin)
    have hwl : ws.length = kdSz kd := by rw [hrow2.1, Nat.one_mul]
    have hflat : r.flat = true := by rw [← kd_flat c1]; exact c3
    have hflatm : m.flat = true := by rw [← kd_flat c2]; exact c3
    rw [hsz', hsz]
    split at hx
    · rename_i h8
      have hq : q < kdSz kd := by
        have := (List.getElem?_eq_some_iff.1 hx).1
        rwa [cell_len, hsz] at this
      obtain ⟨u, hu, hdd⟩ := hc p q x (by omega) hx
      rw [hsz] at hu
      have : (p + 1) * kdSz kd ≤ i' * kdSz kd := Nat.mul_le_mul_right _ h8
      rw [Nat.succ_mul] at this
      refine ⟨u, ?_, (flat_sc hflat hx _ _ _ _ u).1 hdd⟩
      rw [List.append_assoc, List.getElem?_append_left (by omega), List.getElem?_take_of_lt (by omega)]
      exact hu
    · rename_i h8
      split at hx
      · rename_i h9
        have hq : q < kdSz kd := by
          have := (List.getElem?_eq_some_iff.1 hx).1
          rwa [cell_len, hszm, hsz] at this
        have hp0 : p - i' = 0 := by omega
        rw [hp0] at hx
        obtain ⟨u, hu, hdd⟩ := hc2 0 q x (by omega) hx
        refine ⟨u, ?_, (flat_sc hflatm hx _ _ _ _ u).1 hdd⟩
        obtain rfl : p = i' := by omega
        rw [List.append_assoc, List.getElem?_append_right (by omega), h7, List.getElem?_append_left (by omega)]
        rw [show p * kdSz kd + q - p * kdSz kd = 0 * m.sz + q by omega]
        exact hu
      · rename_i h9
        have hq : q < kdSz kd := by
          have := (List.getElem?_eq_some_iff.1 hx).1
          rwa [cell_len, hsz] at this
        obtain ⟨u, hu, hdd⟩ := hc (p - 1) q x (by omega) hx
        rw [hsz] at hu
        refine ⟨u, ?_, (flat_sc hflat hx _ _ _ _ u).1 hdd⟩
        have e : p * kdSz kd = (p - 1) * kdSz kd + kdSz kd := by
          have : p = (p - 1) + 1 := by omega
          conv => lhs; rw [this, Nat.succ_mul]
        have : i' * kdSz kd ≤ (p - 1) * kdSz kd := Nat.mul_le_mul_right _ (by omega)
        rw [List.getElem?_append_right (by rw [List.length_append, h7, hwl]; omega), List.length_append, h7, hwl, List.getElem?_drop]
        rw [show i' * kdSz kd + (p * kdSz kd + q - (i' * kdSz kd + kdSz kd)) = (p - 1) * kdSz kd + q by omega]
        exact hu
  · simp [vd3, vd2, vd1, vd0, lk_upd, Env.add]
end
/-- A row with cells moved on and others put in. -/
theorem ins_list (F : Array Value) (a b : Nat) (vs news : List Value) (hv : vs.length = b - a) (hab : a ≤ b) (hb : b + news.length ≤ F.size) :
    (layC (layC F b news) a vs).toList.take (b + news.length) = F.toList.take a ++ vs ++ news ∧ (layC (layC F a vs) b news).toList.take (b + news.length) = F.toList.take a ++ vs ++ news := by
  have hs : F.toList.length = F.size := rfl
  have ha : (F.toList.take a).length = a := by rw [List.length_take]; omega
  have hbl : (F.toList.take b).length = b := by rw [List.length_take]; omega
  refine ⟨?_, ?_⟩
  · unfold layC
    simp only
    have e1 : (List.take b F.toList ++ news ++ List.drop (b + news.length) F.toList).take a = F.toList.take a := by
      rw [List.append_assoc, List.take_append_of_le_length (by omega), List.take_take, Nat.min_eq_left hab]
    have e2 : (List.take b F.toList ++ news ++ List.drop (b + news.length) F.toList).drop (a + vs.length) = news ++ List.drop (b + news.length) F.toList := by
      rw [List.append_assoc, show a + vs.length = (F.toList.take b).length by omega, List.drop_left]
    rw [e1, e2]
    rw [← List.append_assoc, List.take_append_of_le_length (by simp only [List.length_append, ha]; omega)]
    exact List.take_of_length_le (by simp only [List.length_append, ha]; omega)
  · unfold layC
    simp only
    have e1 : (List.take a F.toList ++ vs ++ List.drop (a + vs.length) F.toList).take b = F.toList.take a ++ vs := by
      rw [List.take_append_of_le_length (by simp only [List.length_append, ha]; omega)]
      exact List.take_of_length_le (by simp only [List.length_append, ha]; omega)
    rw [e1, List.take_append_of_le_length (by simp only [List.length_append, ha]; omega)]
    exact List.take_of_length_le (by simp only [List.length_append, ha]; omega)
/-- The walk of slices.Insert, out of its three roads. -/
theorem InsW.of {P : Program} {f : FuncId} {e : TypeId} {sz bts : Nat} (hent : Enters P f)
    (hend : ∀ (base n : Nat) (v v2 : Value) (us vs : List Value) (w : World), w.ownsRow base e sz v n us → w.ownsRow base e sz v2 1 vs → (n + 1) * bts ≤ 140737488355328 → (∀ u ∈ vs, u.oneCell' = true) → base ≤ w.heap.size →
      Calls P f #[v, .int .i64 n, v2] w fun x w' => ∃ v', x = .returned v' ∧ w'.ownsRow base e sz v' (n + 1) (us ++ vs) ∧ w.grownBy w' v.ownBlock ∧ (v'.ownBlock = v.ownBlock ∨ ∃ g, v'.ownBlock = some g ∧ w.heap.size ≤ g))
    (hshift : ∀ (g cap n i g' cap' : Nat) (cur cur' : Array Value) (w : World), w.heap[g]? = some (.cells cur e (0, 0)) → cur.size = cap * sz → n + 1 ≤ cap → cap ≤ maxLen → i < n → w.heap[g']? = some (.cells cur' e (0, 0)) → cur'.size = cap' * sz → 1 ≤ cap' → g' ≠ g → (∀ u ∈ cur.toList.take (n * sz), u.oneCell' = true) → (∀ u ∈ cur'.toList.take sz, u.oneCell' = true) →
      Calls P f #[.slice (some ⟨g, 0, none⟩) n cap, .int .i64 i, .slice (some ⟨g', 0, none⟩) 1 cap'] w fun x w' => x = .returned (.slice (some ⟨g, 0, none⟩) (n + 1) cap) ∧
        w' = putRow id w.drew g 0 (layC (layC cur ((i + 1) * sz) ((cur.toList.take (n * sz)).drop (i * sz))) (i * sz) (cur'.toList.take sz)))
    (hgrow : ∀ (g cap n i g' cap' : Nat) (cur cur' : Array Value) (w : World), w.heap[g]? = some (.cells cur e (0, 0)) → cur.size = cap * sz → n ≤ cap → cap < n + 1 → cap ≤ maxLen → i < n → (n + 1) * bts ≤ 140737488355328 → w.heap[g']? = some (.cells cur' e (0, 0)) → cur'.size = cap' * sz → 1 ≤ cap' → (∀ u ∈ cur.toList.take (n * sz), u.oneCell' = true) → (∀ u ∈ cur'.toList.take sz, u.oneCell' = true) →
      Calls P f #[.slice (some ⟨g, 0, none⟩) n cap, .int .i64 i, .slice (some ⟨g', 0, none⟩) 1 cap'] w fun x w' => ∃ G ROW, x = .returned (.slice (some ⟨w.heap.size, 0, none⟩) (n + 1) G) ∧ n + 1 ≤ G ∧ G ≤ maxLen ∧ ROW.size = G * sz ∧ ROW.toList.take (i * sz) = (cur.toList.take (n * sz)).take (i * sz) ∧
        w' = putRow id (w.drew.alloc (.cells ROW e)).drew w.heap.size 0 (layC (layC ROW (i * sz) (cur'.toList.take sz)) ((i + 1) * sz) ((cur.toList.take (n * sz)).drop (i * sz)))) : InsW P f e sz bts := by
  refine ⟨hent, ?_⟩
  intro base i n v v2 us vs w hr hr2 hne hin hbig hu hv hbase
  by_cases he : i = n
  · subst he
    refine (hend base i v v2 us vs w hr hr2 hbig hv hbase).mono ?_
    rintro x w' ⟨v', rfl, h1, h2, h3⟩
    refine ⟨v', rfl, ?_, h2, h3⟩
    rw [List.take_of_length_le (by rw [hr.1]; exact Nat.le_refl _), List.drop_eq_nil_of_le (by rw [hr.1]; exact Nat.le_refl _), List.append_nil]
    exact h1
  · have hlt : i < n := by omega
    rcases hr2.2 with ⟨_, h0⟩ | ⟨g', cap', cur', rfl, hb', hh', hn', hm', hs', ht'⟩
    · omega
    rw [Nat.one_mul] at ht'
    rcases hr.2 with ⟨rfl, h0⟩ | ⟨g, cap, cur, rfl, hb, hh, hnc, hm, hs, ht⟩
    · omega
    have hgg : g' ≠ g := fun e => hne g rfl (by rw [← e]; rfl)
    have hul := hr.1
    have hvl := hr2.1
    rw [Nat.one_mul] at hvl
    rw [← ht] at hu
    rw [← ht'] at hv
    have hi1 : (i + 1) * sz = i * sz + sz := Nat.succ_mul _ _
    have hn1 : (n + 1) * sz = n * sz + sz := Nat.succ_mul _ _
    have hin' : i * sz ≤ n * sz := Nat.mul_le_mul_right _ hin
    have hdl : (us.drop (i * sz)).length = n * sz - i * sz := by rw [List.length_drop, hul]
    have hcs : n * sz ≤ cur.size := by rw [hs]; exact Nat.mul_le_mul_right _ hnc
    have e0 : cur.toList.take (i * sz) = us.take (i * sz) := by rw [← ht, List.take_take, Nat.min_eq_left hin']
    have hsum : (i + 1) * sz + (us.drop (i * sz)).length = (n + 1) * sz := by rw [hdl, hi1, hn1]; omega
    have hfull : (us.take (i * sz) ++ vs ++ us.drop (i * sz)).length = (n + 1) * sz := by
      rw [List.length_append, List.length_append, List.length_take, hul, hvl, hdl, Nat.min_eq_left hin', hn1]; omega
    by_cases hroom : n + 1 ≤ cap
    · refine (hshift g cap n i g' cap' cur cur' w hh hs hroom hm hlt hh' hs' hn' hgg hu hv).mono ?_
      rintro x w' ⟨rfl, rfl⟩
      rw [ht, ht']
      have hsz : (n + 1) * sz ≤ cur.size := by rw [hs]; exact Nat.mul_le_mul_right _ hroom
      have hl1 : (layC cur ((i + 1) * sz) (us.drop (i * sz))).size = cur.size := layC_size (by rw [hsum]; exact hsz)
      have hl2 : (layC (layC cur ((i + 1) * sz) (us.drop (i * sz))) (i * sz) vs).size = cur.size := by
        rw [layC_size (by rw [hl1, hvl]; omega), hl1]
      refine ⟨_, rfl, ⟨hfull, .inr ⟨g, cap, layC (layC cur ((i + 1) * sz) (us.drop (i * sz))) (i * sz) vs, rfl, hb, ?_, hroom, hm, by rw [hl2, hs], ?_⟩⟩, ?_, .inl rfl⟩
      · exact putRow_heap (w := w.drew) hh hl2
      · have := (ins_list cur (i * sz) ((i + 1) * sz) vs (us.drop (i * sz)) (by rw [hvl, hi1]; omega) (by omega) (by rw [hsum]; exact hsz)).1
        rw [hsum] at this
        rw [this, e0]
      · have hgr := putRow_grown w.drew g (layC (layC cur ((i + 1) * sz) (us.drop (i * sz))) (i * sz) vs)
        exact ⟨hgr.os, hgr.tape, hgr.output, hgr.size, hgr.block⟩
    · refine (hgrow g cap n i g' cap' cur cur' w hh hs hnc (by omega) hm hlt hbig hh' hs' hn' hu hv).mono ?_
      rintro x w' ⟨G, ROW, rfl, hG1, hG2, hR, hRt, rfl⟩
      rw [ht, ht'] at *
      have hsz : (n + 1) * sz ≤ ROW.size := by rw [hR]; exact Nat.mul_le_mul_right _ hG1
      have hl1 : (layC ROW (i * sz) vs).size = ROW.size := layC_size (by rw [hvl]; omega)
      have hl2 : (layC (layC ROW (i * sz) vs) ((i + 1) * sz) (us.drop (i * sz))).size = ROW.size := by
        rw [layC_size (by rw [hl1, hsum]; exact hsz), hl1]
      have hnew : (w.drew.alloc (.cells ROW e)).drew.heap[w.heap.size]? = some (.cells ROW e (0, 0)) := by
        show (w.drew.heap.push _)[w.heap.size]? = _
        exact Array.getElem?_push_size
      refine ⟨_, rfl, ⟨hfull, .inr ⟨w.heap.size, G, layC (layC ROW (i * sz) vs) ((i + 1) * sz) (us.drop (i * sz)), rfl, hbase, ?_, hG1, hG2, by rw [hl2, hR], ?_⟩⟩, ?_, .inr ⟨_, rfl, Nat.le_refl _⟩⟩
      · exact putRow_heap hnew hl2
      · have := (ins_list ROW (i * sz) ((i + 1) * sz) vs (us.drop (i * sz)) (by rw [hvl, hi1]; omega) (by omega) (by rw [hsum]; exact hsz)).2
        rw [hsum] at this
        rw [this, hRt]
      · have hgr := putRow_grown (w.drew.alloc (.cells ROW e)).drew w.heap.size (layC (layC ROW (i * sz) vs) ((i + 1) * sz) (us.drop (i * sz)))
        refine ⟨hgr.os, hgr.tape, hgr.output, ?_, fun k hk hne => ?_⟩
        · refine Nat.le_trans ?_ hgr.size
          show w.heap.size ≤ (w.heap.push _).size
          rw [Array.size_push]; omega
        · have hk2 : k < (w.drew.alloc (.cells ROW e)).drew.heap.size := by
            show k < (w.heap.push _).size
            rw [Array.size_push]; omega
          have := hgr.block k hk2 (fun e => by injection e with e; omega)
          rw [this]
          show (w.heap.push _)[k]? = w.heap[k]?
          rw [Array.getElem?_push_lt hk]
          exact (Array.getElem?_eq_getElem hk).symm
end Go.Proofs.Ytaapoiikbolgnaa

/- slices.Insert at one type, one element: its walk. -/
namespace Go.Proofs.Ytaapoiikbolgnaa
open Go.RowKit Go.Sort
set_option maxHeartbeats 4000000 in
set_option maxRecDepth 1000000 in
theorem i_endInts (base n : Nat) (v v2 : Value) (us vs : List Value) (w : World) (hr : w.ownsRow base 3 1 v n us) (hr2 : w.ownsRow base 3 1 v2 1 vs) (hbig : (n + 1) * 8 ≤ 140737488355328) (hv : ∀ u ∈ vs, u.oneCell' = true) (hbase : base ≤ w.heap.size) :
    Calls Try.prog 64 #[v, .int .i64 n, v2] w fun x w' => ∃ v', x = .returned v' ∧ w'.ownsRow base 3 1 v' (n + 1) (us ++ vs) ∧ w.grownBy w' v.ownBlock ∧ (v'.ownBlock = v.ownBlock ∨ ∃ g, v'.ownBlock = some g ∧ w.heap.size ≤ g) := by
  obtain ⟨hk10, het, ti, hti, hsz, hby, _⟩ := tau_ok.rk 3 0 (by kernel_rfl)
  obtain ⟨x0, z, g1, g2, g3, g4, g5, g6⟩ := (tau_ok.ti _ ti hti).info
  have g2 : x0.size = 1 := g2.trans hsz
  have g3 : x0.bytes = 8 := g3.trans hby
  have g5 : z.cells.size = 1 := g5.trans hsz
  clear hk10 het g6
  have t22 : Try.prog.underlying 22 = some (.slice 3) := Try.underlying22
  have mixed := hmix
  have h63 : n + 1 ≤ maxLen := by unfold maxLen; omega
  rcases hr2.2 with ⟨_, h0⟩ | ⟨g', cap', cur', rfl, hb', hh', hn', hm', hs', ht'⟩
  · omega
  have hnews : ∀ j u, vs[j]? = some u → w.cell? ((⟨g', 0, none⟩ : Addr).add j) = some u := hr2.cells (g := g') rfl
  have hl : vs.length = 1 * 1 := hr2.1
  have HN : Hid (∀ j u, vs[j]? = some u → w.cell? ((⟨g', 0, none⟩ : Addr).add j) = some u) := hnews
  have HV : Hid (∀ u ∈ vs, u.oneCell' = true) := hv
  have HR : Hid (w.ownsRow base 3 1 v n us) := hr
  have hcm : n ≤ 9223372036854775807 := by omega
  rcases hr.2 with ⟨rfl, h0⟩ | ⟨g, cap, cur, rfl, hb, hh, hnc, hm, hs, ht⟩
  · subst h0
    clear hr2 hnews hv hh' ht' hs' hr
    go_enter Try.func64, Try.ntmps64
    go_wp2_with (at_builtin; refine wpList_append_own_at _ rfl _ _ 22 rfl base 3 x0 z 1 8 t22 g1 g4 g2 g3 g5 (by decide) _ _ _ rfl HR.out ⟨g', 0, none⟩ 1 cap' vs rfl ?qc1 ?qc2 ?qc3 ?qc4 ?qc5 ?qc6 ?_)
    case qc1 => exact hl
    case qc2 => exact HN.out
    case qc3 => exact HV.out
    case qc4 => exact h63
    case qc5 => exact hbig
    case qc6 => exact hbase
    intro v' w1 hown hgrow hnil hat
    go_wp2
    go_ret
    exact ⟨v', rfl, hown, hgrow, hat.imp id fun h => ⟨_, h, Nat.le_refl _⟩⟩
  · have hcm2 : cap ≤ 9223372036854775807 := hm
    clear hr2 hnews hv hh' ht' hs' hh hs ht hr
    go_enter Try.func64, Try.ntmps64
    go_wp2_with (at_builtin; refine wpList_append_own_at _ rfl _ _ 22 rfl base 3 x0 z 1 8 t22 g1 g4 g2 g3 g5 (by decide) _ _ _ rfl HR.out ⟨g', 0, none⟩ 1 cap' vs rfl ?qc1 ?qc2 ?qc3 ?qc4 ?qc5 ?qc6 ?_)
    case qc1 => exact hl
    case qc2 => exact HN.out
    case qc3 => exact HV.out
    case qc4 => exact h63
    case qc5 => exact hbig
    case qc6 => exact hbase
    all_goals
      intro v' w1 hown hgrow hnil hat
      go_wp2
      go_ret
      exact ⟨v', rfl, hown, hgrow, hat.imp id fun h => ⟨_, h, Nat.le_refl _⟩⟩
set_option maxHeartbeats 4000000 in
set_option maxRecDepth 1000000 in
theorem i_shiftInts (g cap n i g' cap' : Nat) (cur cur' : Array Value) (w : World) (hh : w.heap[g]? = some (.cells cur 3 (0, 0))) (hs : cur.size = cap * 1) (hroom : n + 1 ≤ cap) (hcm : cap ≤ maxLen) (hin : i < n)
    (hh' : w.heap[g']? = some (.cells cur' 3 (0, 0))) (hs' : cur'.size = cap' * 1) (hn' : 1 ≤ cap') (hne : g' ≠ g) (h1 : ∀ u ∈ cur.toList.take (n * 1), u.oneCell' = true) (h1' : ∀ u ∈ cur'.toList.take 1, u.oneCell' = true) :
    Calls Try.prog 64 #[.slice (some ⟨g, 0, none⟩) n cap, .int .i64 i, .slice (some ⟨g', 0, none⟩) 1 cap'] w fun x w' => x = .returned (.slice (some ⟨g, 0, none⟩) (n + 1) cap) ∧
      w' = putRow id w.drew g 0 (layC (layC cur (i + 1) ((cur.toList.take (n * 1)).drop (i))) (i) (cur'.toList.take 1)) := by
  obtain ⟨x0, z, g1, g2, g3, g4, g5, g6, g7⟩ := zero_of w tau_ok (e := 3) (kd := 0) (by kernel_rfl)
  have g2 : x0.size = 1 := g2
  have t22 : Try.prog.underlying 22 = some (.slice 3) := Try.underlying22
  have mixed := hmix
  have hcap : (n + 1) * 1 ≤ cur.size := by rw [hs]; exact Nat.mul_le_mul_right _ hroom
  have hcap' : 1 ≤ cur'.size := by rw [hs']; omega
  obtain ⟨news, hnews⟩ : ∃ news, news = (cur.toList.take (n * 1)).drop (i) := ⟨_, rfl⟩
  obtain ⟨vs, hvs⟩ : ∃ vs, vs = cur'.toList.take 1 := ⟨_, rfl⟩
  rw [← hnews, ← hvs]
  have hdl : news.length = (n - i) * 1 := by rw [hnews]; simp; omega
  have hvl : vs.length = 1 * 1 := by rw [hvs]; simp; omega
  have hH := holds_of_heap hh
  have hH' := holds_of_heap hh'
  have hz2 : ¬ ((i : Int) = (n : Int)) := by omega
  have hov : ∀ lb cb, (callFunc 79 #[.slice (some ⟨g', 0, none⟩) 1 cap', .slice (some ⟨g, i + 1, none⟩) lb cb]).run Try.prog w = .ok (.value (.bool false)) w := fun lb cb => by
    rw [run_callFunc_extern Try.func79 (by kernel_rfl) (by kernel_rfl) (by kernel_rfl) (e := Extern.SlicesOverlaps.overlaps #[22, 22] #[4]) (by kernel_rfl),
      Lib.run_overlaps_apart w 22 4 3 t22 1 (fun w => by simp [Go.sizeOf, typeInfo, g1, g2]) ⟨g', 0, none⟩ ⟨g, i + 1, none⟩ 1 cap' lb cb hne 3 3 cur'.size cur.size (by simp [World.shape?, hh']) (by simp [World.shape?, hh]) (by omega) (by simp [World.frozen?, hh']) (by simp [World.frozen?, hh'])]
    rfl
  have hcp1 : ∀ ty lb dc lc sc, lb = n - i → n - i ≤ lc → (Builtin.copy_ #[22, 22] ty #[.slice (some ⟨g, i + 1, none⟩) lb dc, .slice (some ⟨g, i, none⟩) lc sc]).run Try.prog w.drew = .ok (goInt ((n - i : Nat) : Int)) (w.drew.setCells g (i + 1) news) := fun ty lb dc lc sc hlb hlc =>
    run_copy_k w.drew _ _ ty 3 g (i + 1) lb dc ⟨g, i, none⟩ lc sc news t22 g1 g2 (by simp only [Nat.min_def]; split <;> omega) hdl
      (fun j v hj => by
        have hlt : j < (n - i) * 1 := by have := (List.getElem?_eq_some_iff.1 hj).1; rwa [hdl] at this
        rw [hnews, List.getElem?_drop, List.getElem?_take_of_lt (by omega), Array.getElem?_toList, Array.getElem?_eq_getElem (by omega)] at hj
        rw [Addr.add_lit]
        have := (hH (i + j) (by omega)).1
        rw [Nat.zero_add, getElem!_pos cur _ (by omega)] at this
        injection hj with hj
        rw [← hj]
        exact this)
      (fun j hj => by
        rw [hdl] at hj
        have := (hH (i + 1 + j) (by omega)).1
        rw [Nat.zero_add] at this
        show (w.cell? _).isSome = true
        rw [this]; rfl)
      (fun j hj => by
        rw [hdl] at hj
        have := (hH (i + 1 + j) (by omega)).2
        rwa [Nat.zero_add] at this)
      (fun v hv => h1 v (by rw [hnews] at hv; exact List.mem_of_mem_drop hv))
  obtain ⟨W1, hW1⟩ : ∃ W1, W1 = w.drew.setCells g (i + 1) news := ⟨_, rfl⟩
  have hsp1 : ∀ k, k < (n + 1) * 1 → (W1.cell? ⟨g, k, none⟩).isSome = true := fun k hk => by
    rw [hW1]
    refine isSome_setC g _ _ _ (fun j hj => ?_) _ ?_
    · rw [hdl] at hj
      have := (hH (i + 1 + j) (by omega)).1
      rw [Nat.zero_add] at this
      show (w.cell? _).isSome = true
      rw [this]; rfl
    · have := (hH k (by omega)).1
      rw [Nat.zero_add] at this
      show (w.cell? _).isSome = true
      rw [this]; rfl
  have hcp2 : ∀ (W : World), (∀ x, W.cell? x = W1.cell? x) → (∀ x, W.frozen? x = W1.frozen? x) → ∀ ty dc, (Builtin.copy_ #[22, 22] ty #[.slice (some ⟨g, i, none⟩) (n + 1 - i) dc, .slice (some ⟨g', 0, none⟩) 1 cap']).run Try.prog W = .ok (goInt 1) (W.setCells g (i) vs) := fun W hWc hWf ty dc =>
    run_copy_k W _ _ ty 3 g (i) (n + 1 - i) dc ⟨g', 0, none⟩ 1 cap' vs t22 g1 g2 (by simp only [Nat.min_def]; split <;> omega) hvl
      (fun j v hj => by
        have hlt : j < 1 := by have := (List.getElem?_eq_some_iff.1 hj).1; rw [hvl] at this; omega
        rw [hvs, List.getElem?_take_of_lt (by omega), Array.getElem?_toList, Array.getElem?_eq_getElem (by omega)] at hj
        rw [Addr.add_lit, hWc, hW1, World.cell?_setCells_out g _ _ _ _ (fun h _ => absurd h hne)]
        have := (hH' j (by omega)).1
        rw [getElem!_pos cur' _ (by omega)] at this
        injection hj with hj
        rw [← hj]
        exact this)
      (fun j hj => by rw [hvl] at hj; rw [hWc]; exact hsp1 _ (by omega))
      (fun j hj => by
        rw [hvl] at hj
        rw [hWf, hW1, World.frozen?_setCells]
        have := (hH (i + j) (by omega)).2
        rwa [Nat.zero_add] at this)
      (fun v hv => h1' v (by rw [hvs] at hv; exact hv))
  have hfin : W1.setCells g (i) vs = putRow id w.drew g 0 (layC (layC cur (i + 1) news) (i) vs) := by
    have hdr : w.drew.heap[g]? = some (.cells cur 3 (0, 0)) := hh
    rw [hW1]
    conv => lhs; rw [← putRow_self id w.drew g 0 cur (holds_of_heap hdr)]
    rw [setCells_layC w.drew g news _ cur (by rw [hdl]; omega), setCells_layC w.drew g vs _ _ (by rw [layC_size (by rw [hdl]; omega), hvl]; omega)]
  have hw1 : IntKind.i64.wrap ((i : Int) + 1) = (i : Int) + 1 := by rw [IntKind.wrap_i64]; unfold maxLen at hcm; omega
  have htn : ((i : Int) + 1).toNat = i + 1 := by omega
  have hb1 : (0 : Int) ≤ (i : Int) + 1 := by omega
  have hin2 : i ≤ n := by omega
  have hb2 : ¬ (cap = i + 1) := by omega
  have hb3 : (i : Int) ≤ (n : Int) + 1 := by omega
  have hb4 : ¬ (cap = i) := by omega
  have hcm2 : cap ≤ 9223372036854775807 := hcm
  rw [← hW1] at hcp1
  have HF : Hid (W1.setCells g (i) vs = putRow id w.drew g 0 (layC (layC cur (i + 1) news) (i) vs)) := hfin
  rw [← hfin]
  clear hfin hW1 hsp1 hH hH' hh hh' hnews hvs h1 h1' g6 g7 g4 hdl hvl hs hs' hcap hcap'
  go_enter Try.func64, Try.ntmps64
  go_wp2_with (simp only [hov])
  go_region_law_o (refine step_copy_k rfl (.tmp 73) (.tmp 76) 22 22 rfl (.slice (some ⟨g, i + 1, none⟩) (n - i) (cap - (i + 1))) (.slice (some ⟨g, i, none⟩) (n + 1 - i) (cap - i)) (by simp [Act.eval, Act.put]) (by simp [Act.eval, Act.put]) (hcp1 _ _ _ _ _ (by omega) (by omega)) ?_)
  go_wp2_with (at_builtin; go_loud (refine wpList_copy_k _ rfl _ _ 22 22 rfl _ _ rfl rfl (hcp2 _ (fun _ => rfl) (fun _ => rfl) _ _) ?_))
  go_ret
  exact ⟨rfl, rfl⟩
set_option maxHeartbeats 4000000 in
set_option maxRecDepth 1000000 in
theorem i_growInts (g cap n i g' cap' : Nat) (cur cur' : Array Value) (w : World) (hh : w.heap[g]? = some (.cells cur 3 (0, 0))) (hs : cur.size = cap * 1) (hnc : n ≤ cap) (hroom : cap < n + 1) (hcm : cap ≤ maxLen) (hin : i < n) (hbig : (n + 1) * 8 ≤ 140737488355328)
    (hh' : w.heap[g']? = some (.cells cur' 3 (0, 0))) (hs' : cur'.size = cap' * 1) (hn' : 1 ≤ cap') (h1 : ∀ u ∈ cur.toList.take (n * 1), u.oneCell' = true) (h1' : ∀ u ∈ cur'.toList.take 1, u.oneCell' = true) :
    Calls Try.prog 64 #[.slice (some ⟨g, 0, none⟩) n cap, .int .i64 i, .slice (some ⟨g', 0, none⟩) 1 cap'] w fun x w' => ∃ G ROW, x = .returned (.slice (some ⟨w.heap.size, 0, none⟩) (n + 1) G) ∧ n + 1 ≤ G ∧ G ≤ maxLen ∧ ROW.size = G * 1 ∧ ROW.toList.take (i) = (cur.toList.take (n * 1)).take (i) ∧
      w' = putRow id (w.drew.alloc (.cells ROW 3)).drew w.heap.size 0 (layC (layC ROW (i) (cur'.toList.take 1)) (i + 1) ((cur.toList.take (n * 1)).drop (i))) := by
  obtain ⟨x0, z, g1, g2, g3, g4, g5, g6, g7⟩ := zero_of w tau_ok (e := 3) (kd := 0) (by kernel_rfl)
  have g2 : x0.size = 1 := g2
  have g3 : x0.bytes = 8 := g3
  have g5 : z.cells.size = 1 := g5
  have t22 : Try.prog.underlying 22 = some (.slice 3) := Try.underlying22
  have tI : Try.prog.underlying 3 = some (.int .i64) := Try.underlying3
  have mixed := hmix
  have hcap : n * 1 ≤ cur.size := by rw [hs]; exact Nat.mul_le_mul_right _ hnc
  have hcap' : 1 ≤ cur'.size := by rw [hs']; omega
  obtain ⟨cs, hcs⟩ : ∃ cs, cs = cur.toList.take (n * 1) := ⟨_, rfl⟩
  obtain ⟨vs, hvs⟩ : ∃ vs, vs = cur'.toList.take 1 := ⟨_, rfl⟩
  rw [← hcs, ← hvs]
  rw [← hcs] at h1
  rw [← hvs] at h1'
  have hcl : cs.length = n * 1 := by rw [hcs]; simp; omega
  have hvl : vs.length = 1 * 1 := by rw [hvs]; simp; omega
  have hH := holds_of_heap hh
  have hH' := holds_of_heap hh'
  have hcc : ∀ j v, cs[j]? = some v → w.cell? ⟨g, j, none⟩ = some v := fun j v hj => by
    have hlt : j < n * 1 := by have := (List.getElem?_eq_some_iff.1 hj).1; rwa [hcl] at this
    rw [hcs, List.getElem?_take_of_lt (by omega), Array.getElem?_toList, Array.getElem?_eq_getElem (by omega)] at hj
    have := (hH j (by omega)).1
    rw [Nat.zero_add, getElem!_pos cur _ (by omega)] at this
    injection hj with hj
    rw [← hj]
    exact this
  have hvc : ∀ j v, vs[j]? = some v → w.cell? ⟨g', j, none⟩ = some v := fun j v hj => by
    have hlt : j < 1 := by have := (List.getElem?_eq_some_iff.1 hj).1; rw [hvl] at this; omega
    rw [hvs, List.getElem?_take_of_lt (by omega), Array.getElem?_toList, Array.getElem?_eq_getElem (by omega)] at hj
    have := (hH' j (by omega)).1
    rw [Nat.zero_add, getElem!_pos cur' _ (by omega)] at this
    injection hj with hj
    rw [← hj]
    exact this
  have hgw : g < w.heap.size := (Array.getElem?_eq_some_iff.1 hh).1
  have hvw : g' < w.heap.size := (Array.getElem?_eq_some_iff.1 hh').1
  have hkk : (n : Int) + 1 - (i : Int) = ((n + 1 - i : Nat) : Int) := by omega
  have hik : i + (n + 1 - i) = n + 1 := by omega
  have hold : (Builtin.firstCells x0.size i (.slice (some ⟨g, 0, none⟩) i cap)).run Try.prog w.drew = .ok (cs.take (i)).toArray w.drew := by
    rw [g2]
    exact run_firstCells_some w.drew 1 i ⟨g, 0, none⟩ i cap (cs.take (i)) (by rw [List.length_take]; omega) (fun j v hj => by
      rw [Addr.add_lit, Nat.zero_add]
      rw [List.getElem?_take] at hj
      split at hj
      · exact hcc j v hj
      · cases hj)
  have hrz : ∀ ty, (Builtin.append_ #[22, 3] ty #[.slice (some ⟨g, 0, none⟩) i cap, .int .i64 ((n : Int) + 1 - (i : Int))]).run Try.prog w =
      .ok (.slice (some ⟨w.heap.size, 0, none⟩) (n + 1) (grownCap w (n + 1) cap 3)) (w.drew.alloc (.cells ((cs.take (i)).toArray ++ Builtin.zeroCells z.cells (n + 1 - i) ++ Builtin.zeroCells z.cells (grownCap w (n + 1) cap 3 - (n + 1))) 3)) := fun ty => by
    have h := Lib.run_append_grow_zeros w 22 3 ty 3 x0 z .i64 .i64 t22 tI g1 g4 (some ⟨g, 0, none⟩) i cap (cs.take (i)) hold (n + 1 - i) (by omega) (by omega) (by omega) (by omega) (by rw [g3]; omega) (by rw [g3, hik]; exact growslice_fits hroom hbig)
    rw [hik] at h
    rw [hkk]
    exact h
  obtain ⟨G, hG⟩ : ∃ G, G = grownCap w (n + 1) cap 3 := ⟨_, rfl⟩
  obtain ⟨ROW, hROW⟩ : ∃ ROW : Array Value, ROW = (cs.take (i)).toArray ++ Builtin.zeroCells z.cells (n + 1 - i) ++ Builtin.zeroCells z.cells (G - (n + 1)) := ⟨_, rfl⟩
  rw [← hG] at hrz
  rw [← hROW] at hrz
  have hGn : n + 1 ≤ G := by rw [hG]; exact grownCap_ge w _ _ _
  have hGm : G ≤ maxLen := by rw [hG]; exact grownCap_le_maxLen w (n + 1) cap 3 (by unfold maxLen; omega)
  have hG63 : G ≤ 9223372036854775807 := hGm
  have hRs : ROW.size = G * 1 := by
    rw [hROW]
    simp [Builtin.zeroCells, g5, hcl]
    omega
  have hRl : (n + 1) * 1 ≤ ROW.size := by rw [hRs]; exact Nat.mul_le_mul_right _ hGn
  have hRt : ROW.toList.take (i) = cs.take (i) := by
    rw [hROW]
    simp only [Array.toList_append, List.append_assoc]
    rw [List.take_append_of_le_length (by simp [hcl]; omega)]
    first | done | (show List.take _ (List.take _ cs) = _; rw [List.take_take, Nat.min_self])
  obtain ⟨W1, hW1⟩ : ∃ W1, W1 = w.drew.alloc (.cells ROW 3) := ⟨_, rfl⟩
  rw [← hW1] at hrz
  have hN : ∀ j, j < (n + 1) * 1 → (W1.cell? ⟨w.heap.size, j, none⟩).isSome = true := fun j hj => by
    rw [hW1, World.cell?_alloc_at (w := w.drew) ROW _ w.heap.size j rfl, Array.getElem?_eq_getElem (by omega)]; rfl
  have hNf : ∀ j, W1.frozen? ⟨w.heap.size, j, none⟩ = false := fun j => by rw [hW1]; exact World.frozen?_alloc_at (w := w.drew) ROW _ w.heap.size j rfl
  have hOb : ∀ j v, w.cell? ⟨g, j, none⟩ = some v → W1.cell? ⟨g, j, none⟩ = some v := fun j v h => by rw [hW1, World.cell?_alloc_past (w := w.drew) _ g j hgw]; exact h
  have hOv : ∀ j v, w.cell? ⟨g', j, none⟩ = some v → W1.cell? ⟨g', j, none⟩ = some v := fun j v h => by rw [hW1, World.cell?_alloc_past (w := w.drew) _ g' j hvw]; exact h
  have hcpA : ∀ (W : World), (∀ x, W.cell? x = W1.cell? x) → (∀ x, W.frozen? x = W1.frozen? x) → ∀ ty dc, (Builtin.copy_ #[22, 22] ty #[.slice (some ⟨w.heap.size, i, none⟩) (n + 1 - i) dc, .slice (some ⟨g', 0, none⟩) 1 cap']).run Try.prog W = .ok (goInt ((1 : Nat) : Int)) (W.setCells w.heap.size (i) vs) := fun W hWc hWf ty dc =>
    run_copy_k W _ _ ty 3 w.heap.size (i) (n + 1 - i) dc ⟨g', 0, none⟩ 1 cap' vs t22 g1 g2 (by simp only [Nat.min_def]; split <;> omega) hvl
      (fun j v hj => by rw [Addr.add_lit, Nat.zero_add, hWc]; exact hOv _ v (hvc j v hj))
      (fun j hj => by rw [hvl] at hj; rw [hWc]; exact hN _ (by omega)) (fun j hj => by rw [hWf]; exact hNf _) h1'
  have hgN : g ≠ w.heap.size := by omega
  have hdl : (cs.drop (i)).length = (n - i) * 1 := by rw [List.length_drop, hcl]; omega
  have hcpB : ∀ (W : World), (∀ x, W.cell? x = (W1.setCells w.heap.size (i) vs).cell? x) → (∀ x, W.frozen? x = (W1.setCells w.heap.size (i) vs).frozen? x) → ∀ ty dc sc, (Builtin.copy_ #[22, 22] ty #[.slice (some ⟨w.heap.size, i + 1, none⟩) (n - i) dc, .slice (some ⟨g, i, none⟩) (n - i) sc]).run Try.prog W = .ok (goInt ((n - i : Nat) : Int)) (W.setCells w.heap.size (i + 1) (cs.drop (i))) := fun W hWc hWf ty dc sc =>
    run_copy_k W _ _ ty 3 w.heap.size (i + 1) (n - i) dc ⟨g, i, none⟩ (n - i) sc (cs.drop (i)) t22 g1 g2 (by simp only [Nat.min_def]; split <;> omega) hdl
      (fun j v hj => by
        rw [Addr.add_lit, hWc, World.cell?_setCells_out _ _ _ _ _ (fun h _ => absurd h hgN)]
        exact hOb _ v (hcc _ v (by rwa [List.getElem?_drop] at hj)))
      (fun j hj => by rw [hdl] at hj; rw [hWc]; exact isSome_setC _ _ _ _ (fun t ht => by rw [hvl] at ht; exact hN _ (by omega)) _ (hN _ (by omega)))
      (fun j hj => by rw [hWf, World.frozen?_setCells]; exact hNf _) (fun v hv => h1 v (List.mem_of_mem_drop hv))
  have hfin : ((w.drew.alloc (.cells ROW 3)).drew.setCells w.heap.size (i) vs).setCells w.heap.size (i + 1) (cs.drop (i)) = putRow id (w.drew.alloc (.cells ROW 3)).drew w.heap.size 0 (layC (layC ROW (i) vs) (i + 1) (cs.drop (i))) := by
    have hdr : (w.drew.alloc (.cells ROW 3)).drew.heap[w.heap.size]? = some (.cells ROW 3 (0, 0)) := by
      show (w.drew.heap.push _)[w.heap.size]? = _
      exact Array.getElem?_push_size
    conv => lhs; rw [← putRow_self id (w.drew.alloc (.cells ROW 3)).drew w.heap.size 0 ROW (holds_of_heap hdr)]
    rw [setCells_layC _ _ vs _ ROW (by rw [hvl]; omega), setCells_layC _ _ (cs.drop (i)) _ _ (by rw [layC_size (by rw [hvl]; omega), hdl]; omega)]
  subst hW1
  have hE1 : ∀ x, ((w.alloc (.cells ROW 3)).drew).cell? x = (w.drew.alloc (.cells ROW 3)).cell? x := fun x => rfl
  have hE2 : ∀ x, ((w.alloc (.cells ROW 3)).drew).frozen? x = (w.drew.alloc (.cells ROW 3)).frozen? x := fun x => rfl
  have hF1 : ∀ x, (((w.alloc (.cells ROW 3)).drew.setCells w.heap.size (i) vs).drew).cell? x = ((w.drew.alloc (.cells ROW 3)).setCells w.heap.size (i) vs).cell? x := fun x => rfl
  have hF2 : ∀ x, (((w.alloc (.cells ROW 3)).drew.setCells w.heap.size (i) vs).drew).frozen? x = ((w.drew.alloc (.cells ROW 3)).setCells w.heap.size (i) vs).frozen? x := fun x => rfl
  have hz2 : ¬ ((i : Int) = (n : Int)) := by omega
  have hz3 : (cap : Int) < (n : Int) + 1 := by omega
  have hw1 : IntKind.i64.wrap ((i : Int) + 1) = (i : Int) + 1 := by rw [IntKind.wrap_i64]; unfold maxLen at hcm; omega
  have htn : ((i : Int) + 1).toNat = i + 1 := by omega
  have hb1 : (0 : Int) ≤ (i : Int) + 1 := by omega
  have hin2 : i ≤ n := by omega
  have hGi : ¬ (G = i) := by omega
  have hGim : ¬ (G = i + 1) := by omega
  have hci : ¬ (cap = i) := by omega
  have hb3 : (i : Int) ≤ (n : Int) + 1 := by omega
  have hcm2 : cap ≤ 9223372036854775807 := hcm
  have HF : Hid (((w.drew.alloc (.cells ROW 3)).drew.setCells w.heap.size (i) vs).setCells w.heap.size (i + 1) (cs.drop (i)) = putRow id (w.drew.alloc (.cells ROW 3)).drew w.heap.size 0 (layC (layC ROW (i) vs) (i + 1) (cs.drop (i)))) := hfin
  have HRt : Hid (ROW.toList.take (i) = cs.take (i)) := hRt
  have HRs : Hid (ROW.size = G * 1) := hRs
  clear hfin hRt hRs hkk hik hold hROW hG hRl hH hH' hh hh' hcs hvs h1 h1' g6 g7 g4 hdl hvl hs hs' hcap hcap' hcc hvc hN hNf hOb hOv hcl
  go_enter Try.func64, Try.ntmps64
  go_wp2_with (first
    | (at_builtin; refine Lib.wpList_append_run _ rfl _ _ _ _ rfl _ _ rfl rfl _ _ (hrz _) ?_)
    | (at_builtin; refine wpList_copy_k _ rfl _ _ 22 22 rfl _ _ rfl rfl (hcpA _ hE1 hE2 _ _) ?_)
    | (at_builtin; refine wpList_copy_k _ rfl _ _ 22 22 rfl _ _ rfl rfl (hcpB _ (fun _ => rfl) (fun _ => rfl) _ _ _) ?_))
  go_region_law_o (refine step_copy_k rfl _ _ 22 22 rfl (.slice (some ⟨w.heap.size, i + 1, none⟩) (n - i) (G - (i + 1))) (.slice (some ⟨g, i, none⟩) (n - i) (cap - i)) (by simp [Act.eval, Act.put]) (by simp [Act.eval, Act.put]) (hcpB _ hF1 hF2 _ (G - (i + 1)) (cap - i)) ?_)
  go_wp2
  go_ret
  refine ⟨G, ROW, rfl, hGn, hGm, HRs.out, HRt.out, ?_⟩
  rw [← setCells_drew]
  exact HF.out
theorem w_InsertInts : InsW Try.prog 64 3 1 8 := by
  refine InsW.of (fnOk_enters (fn := Try.f64) (D := [(11, [(0, 0), (1, 0), (2, 0), (3, 6), (4, 9), (5, 0), (6, 0), (7, 96), (8, 144)]), (15, [(0, 0), (1, 0), (2, 0), (3, 6), (4, 9), (5, 0), (6, 0), (7, 96), (8, 144)])]) (by kernel_rfl) (by kernel_rfl)) (fun base n v v2 us vs w a1 a2 a3 a4 a5 => i_endInts base n v v2 us vs w a1 a2 a3 a4 a5) (fun g cap n i g' cap' cur cur' w a1 a2 a3 a4 a5 a6 a7 a8 a9 b1 b2 => ?_) (fun g cap n i g' cap' cur cur' w a1 a2 a3 a4 a5 a6 a7 a8 a9 b1 b2 b3 => ?_)
  · have h := i_shiftInts g cap n i g' cap' cur cur' w a1 a2 a3 a4 a5 a6 a7 a8 a9 b1 b2
    simp only [Nat.mul_one] at h ⊢
    exact h
  · have h := i_growInts g cap n i g' cap' cur cur' w a1 a2 a3 a4 a5 a6 a7 a8 a9 b1 b2 b3
    simp only [Nat.mul_one] at h ⊢
    exact h
theorem t_InsertInts : TrKnown Try.prog tau 64 (insertT 0) := insert_tr w_InsertInts
end Go.Proofs.Ytaapoiikbolgnaa

/- Contracts: who was lost. -/
namespace Go.Proofs.Ytaapoiikbolgnaa
open Go.RowKit
set_option maxRecDepth 20000

theorem etaInt0 {l : List Int} {i : Nat} (h : i < l.length) : l.getD i 0 = l[i] := by simp [List.getD_eq_getElem?_getD, h]
theorem rising_adj {l : List Int} (h : ∀ t, t + 1 < l.length → l.getD t 0 < l.getD (t + 1) 0) : Rising l := by
  intro s t
  induction t with
  | zero => intro h1; omega
  | succ t ih =>
    intro h1 h2
    have := h t h2
    rcases Nat.lt_or_eq_of_le (Nat.le_of_lt_succ h1) with h3 | rfl
    · have := ih h3 (by omega)
      omega
    · exact this
theorem rising_iff {l : List Int} : Rising l ↔ l.Pairwise (· < ·) := by
  rw [List.pairwise_iff_getElem]
  constructor
  · intro h i j hi hj hij
    have := h i j hij hj
    rwa [etaInt0 hi, etaInt0 hj] at this
  · intro h i j hij hj
    rw [etaInt0 (show i < l.length by omega), etaInt0 hj]
    exact h i j (by omega) hj hij
def passB (l : List Int) : Bool := decide (l.length ≤ 16) && (decide (l.Pairwise (· < ·)) && l.all placeB)
theorem passB_iff {l : List Int} : passB l = true ↔ l.length ≤ 16 ∧ Rising l ∧ ∀ x ∈ l, placeB x = true := by
  simp only [passB, Bool.and_eq_true, decide_eq_true_eq, rising_iff, List.all_eq_true]
theorem passB_no {l : List Int} (h : ¬ (l.length ≤ 16 ∧ Rising l ∧ ∀ x ∈ l, placeB x = true)) : passB l = false := by
  rw [← passB_iff] at h
  simpa using h
theorem back1 {i : Nat} (h : 0 < i) (h2 : i ≤ 17592186044416) : (IntKind.i64.wrap ((i : Int) - 1)).toNat = i - 1 ∧ IntKind.i64.wrap ((i : Int) - 1) = ((i - 1 : Nat) : Int) := by
  rw [wrapI (by omega) (by omega)]; omega
set_option maxHeartbeats 1000000 in
theorem k_passMay : Known Try.prog tau 61 (S1 dInts fun l => okB (passB l)) := by
  refine known1 hmix tau_ok (ctx_cons k_Place ctx_nil) (fn := Try.f61) (by kernel_rfl) [] (by kernel_rfl) _ _ fun xs hfit => ⟨rfl,
    [(2, invN [2, 3, 4, 7, 8, 9, 10, 11, 12, 13, 14, 15, 16, 17, 18, 19, 20, 21, 22, 23, 24, 25, 26, 27, 28] (fun i => i ≤ xs.length ∧ (∀ x ∈ xs.take i, placeB x = true) ∧ ∀ t, t + 1 < i → xs.getD t 0 < xs.getD (t + 1) 0) (fun i => withS [(7, .int .i64 i)]) (fun i => xs.length - i))], ?_⟩
  have hlen : xs.length * 8 ≤ 140737488355328 := hfit.1
  clear hfit
  (repeat' (first | ((with_reducible refine BdI ?_); (first | ((with_reducible refine SqI ?_ (fun Kv hN hX hR => ?_)); (next => exact rfl)) | ((with_reducible refine JnI ?_ ?_); (next => exact rfl)) | (conv => whnf))) | (with_reducible first | refine BdS (fun Kv hN hX hR => ?_) | refine Stop.mk ?_ | refine Join.mk ⟨fun Kv hN hX hR => ?_, ?_⟩ | refine DrawJ.each ?_ | exact SubJ.self _) | with_reducible refine SubJ.of ?_ | (with_reducible first | refine FlS (fun Kf hF => ?_) | refine FlN ?_ | refine NdS (fun Kg hG => ?_) | (refine hF _ _ ?_; clear hF; clear Kf) | (refine hG _ _ _ _ ?_; clear hG; clear Kg)) | ((with_reducible refine SqI ?_ (fun Kv hN hX hR => ?_)); (next => exact rfl)) | ((with_reducible refine JnI ?_ ?_); (next => exact rfl)) | ((with_reducible first | refine hN _ ?_ | refine hX _ _ ?_ | refine hR _ ?_); (try (clear hG; clear Kg)); clear hN hX hR; clear Kv) | ((conv => whnf); first | (with_reducible first | rfl | exact True.intro | refine (fun (_ : (_ : Prop)) => ?_) | refine And.intro ?_ ?_) | ((with_reducible first | refine hN _ ?_ | refine hX _ _ ?_ | refine hR _ ?_); (try (clear hG; clear Kg)); clear hN hX hR; clear Kv) | (with_reducible first | refine BdS (fun Kv hN hX hR => ?_) | refine Stop.mk ?_ | refine Join.mk ⟨fun Kv hN hX hR => ?_, ?_⟩ | refine DrawJ.each ?_ | exact SubJ.self _) | with_reducible refine SubJ.of ?_ | (with_reducible first | refine FlS (fun Kf hF => ?_) | refine FlN ?_ | refine NdS (fun Kg hG => ?_) | (refine hF _ _ ?_; clear hF; clear Kf) | (refine hG _ _ _ _ ?_; clear hG; clear Kg))))); all_goals (conv => whnf); all_goals (repeat ((try (clear hG; clear Kg)); clear hN hX hR; clear Kv))
  all_goals first
    | (refine ⟨0, ⟨by omega, by simp, by intros; omega⟩, ?_⟩
       (repeat' (first | ((with_reducible refine BdI ?_); (first | ((with_reducible refine SqI ?_ (fun Kv hN hX hR => ?_)); (next => exact rfl)) | ((with_reducible refine JnI ?_ ?_); (next => exact rfl)) | (conv => whnf))) | (with_reducible first | refine BdS (fun Kv hN hX hR => ?_) | refine Stop.mk ?_ | refine Join.mk ⟨fun Kv hN hX hR => ?_, ?_⟩ | refine DrawJ.each ?_ | exact SubJ.self _) | with_reducible refine SubJ.of ?_ | (with_reducible first | refine FlS (fun Kf hF => ?_) | refine FlN ?_ | refine NdS (fun Kg hG => ?_) | (refine hF _ _ ?_; clear hF; clear Kf) | (refine hG _ _ _ _ ?_; clear hG; clear Kg)) | ((with_reducible refine SqI ?_ (fun Kv hN hX hR => ?_)); (next => exact rfl)) | ((with_reducible refine JnI ?_ ?_); (next => exact rfl)) | ((with_reducible first | refine hN _ ?_ | refine hX _ _ ?_ | refine hR _ ?_); (try (clear hG; clear Kg)); clear hN hX hR; clear Kv) | ((conv => whnf); first | (with_reducible first | rfl | exact True.intro | intro _ | refine And.intro ?_ ?_) | ((with_reducible first | refine hN _ ?_ | refine hX _ _ ?_ | refine hR _ ?_); (try (clear hG; clear Kg)); clear hN hX hR; clear Kv) | (with_reducible first | refine BdS (fun Kv hN hX hR => ?_) | refine Stop.mk ?_ | refine Join.mk ⟨fun Kv hN hX hR => ?_, ?_⟩ | refine DrawJ.each ?_ | exact SubJ.self _) | with_reducible refine SubJ.of ?_ | (with_reducible first | refine FlS (fun Kf hF => ?_) | refine FlN ?_ | refine NdS (fun Kg hG => ?_) | (refine hF _ _ ?_; clear hF; clear Kf) | (refine hG _ _ _ _ ?_; clear hG; clear Kg))))); all_goals (conv => whnf); all_goals (repeat ((try (clear hG; clear Kg)); clear hN hX hR; clear Kv))
       all_goals rfl)
    | (with_reducible intro i hi
       (repeat' (first | ((with_reducible refine BdI ?_); (first | ((with_reducible refine SqI ?_ (fun Kv hN hX hR => ?_)); (next => exact rfl)) | ((with_reducible refine JnI ?_ ?_); (next => exact rfl)) | (conv => whnf))) | (with_reducible first | refine BdS (fun Kv hN hX hR => ?_) | refine Stop.mk ?_ | refine Join.mk ⟨fun Kv hN hX hR => ?_, ?_⟩ | refine DrawJ.each ?_ | exact SubJ.self _) | with_reducible refine SubJ.of ?_ | (with_reducible first | refine FlS (fun Kf hF => ?_) | refine FlN ?_ | refine NdS (fun Kg hG => ?_) | (refine hF _ _ ?_; clear hF; clear Kf) | (refine hG _ _ _ _ ?_; clear hG; clear Kg)) | ((with_reducible refine SqI ?_ (fun Kv hN hX hR => ?_)); (next => exact rfl)) | ((with_reducible refine JnI ?_ ?_); (next => exact rfl)) | ((with_reducible first | refine hN _ ?_ | refine hX _ _ ?_ | refine hR _ ?_); (try (clear hG; clear Kg)); clear hN hX hR; clear Kv) | ((conv => whnf); first | (with_reducible first | rfl | exact True.intro | intro _ | refine And.intro ?_ ?_) | ((with_reducible first | refine hN _ ?_ | refine hX _ _ ?_ | refine hR _ ?_); (try (clear hG; clear Kg)); clear hN hX hR; clear Kv) | (with_reducible first | refine BdS (fun Kv hN hX hR => ?_) | refine Stop.mk ?_ | refine Join.mk ⟨fun Kv hN hX hR => ?_, ?_⟩ | refine DrawJ.each ?_ | exact SubJ.self _) | with_reducible refine SubJ.of ?_ | (with_reducible first | refine FlS (fun Kf hF => ?_) | refine FlN ?_ | refine NdS (fun Kg hG => ?_) | (refine hF _ _ ?_; clear hF; clear Kf) | (refine hG _ _ _ _ ?_; clear hG; clear Kg))))); all_goals (conv => whnf); all_goals (repeat ((try (clear hG; clear Kg)); clear hN hX hR; clear Kv))
       all_goals first
         | exact Ob.mk ⟨by omega, of_decide_eq_true (by with_reducible assumption)⟩
         | (have h0 := of_decide_eq_true (show decide (0 < (i : Int)) = true by with_reducible assumption)
            have hb := back1 (i := i) (by omega) (by omega)
            refine Ob.mk ?_
            rw [hb.2]
            have h := of_decide_eq_true (show decide ((i : Int) < (xs.length : Nat)) = true by with_reducible assumption)
            omega)
         | (have h := of_decide_eq_true (show decide ((i : Int) < (xs.length : Nat)) = true by with_reducible assumption)
            have hm : (!placeB (xs.getD (i : Int).toNat 0)) = true := by with_reducible assumption
            refine (passB_no ?_).symm
            rintro ⟨_, _, h3⟩
            have := h3 _ (getD_mem (l := xs) (i := (i : Int).toNat) (d := 0) (by omega))
            rw [this] at hm
            simp at hm)
         | (have h := of_decide_eq_true (show decide ((i : Int) < (xs.length : Nat)) = true by with_reducible assumption)
            have h0 := of_decide_eq_true (show decide (0 < (i : Int)) = true by with_reducible assumption)
            have hb := back1 (i := i) (by omega) (by omega)
            have hm := of_decide_eq_true (show decide (xs.getD (i : Int).toNat 0 ≤ xs.getD (IntKind.i64.wrap ((i : Int) - 1)).toNat 0) = true by with_reducible assumption)
            rw [hb.1, Int.toNat_natCast] at hm
            refine (passB_no ?_).symm
            rintro ⟨_, h2, _⟩
            have := h2 (i - 1) i (by omega) (by omega)
            omega)
         | (have h := of_decide_eq_true (show decide ((i : Int) < (xs.length : Nat)) = true by with_reducible assumption)
            have hp : (!placeB (xs.getD (i : Int).toNat 0)) = false := by with_reducible assumption
            simp only [Int.toNat_natCast, Bool.not_eq_false'] at hp
            refine ⟨i + 1, ⟨by omega, all_take_succ (d := 0) (by omega) hi.2.1 hp, fun t ht => ?_⟩, by show xs.length - (i + 1) < xs.length - i; omega, ?_⟩
            · rcases Nat.lt_or_eq_of_le (Nat.le_of_lt_succ ht) with h3 | h3
              · exact hi.2.2 t h3
              · first
                  | (have h0 := of_decide_eq_false (show decide (0 < (i : Int)) = false by with_reducible assumption)
                     omega)
                  | (have hb := back1 (i := i) (by omega) (by omega)
                     have hm := of_decide_eq_false (show decide (xs.getD (i : Int).toNat 0 ≤ xs.getD (IntKind.i64.wrap ((i : Int) - 1)).toNat 0) = false by with_reducible assumption)
                     rw [hb.1, Int.toNat_natCast] at hm
                     rw [show t = i - 1 by omega, show i - 1 + 1 = i by omega]
                     omega)
            · (repeat' (first | ((with_reducible refine BdI ?_); (first | ((with_reducible refine SqI ?_ (fun Kv hN hX hR => ?_)); (next => exact rfl)) | ((with_reducible refine JnI ?_ ?_); (next => exact rfl)) | (conv => whnf))) | (with_reducible first | refine BdS (fun Kv hN hX hR => ?_) | refine Stop.mk ?_ | refine Join.mk ⟨fun Kv hN hX hR => ?_, ?_⟩ | refine DrawJ.each ?_ | exact SubJ.self _) | with_reducible refine SubJ.of ?_ | (with_reducible first | refine FlS (fun Kf hF => ?_) | refine FlN ?_ | refine NdS (fun Kg hG => ?_) | (refine hF _ _ ?_; clear hF; clear Kf) | (refine hG _ _ _ _ ?_; clear hG; clear Kg)) | ((with_reducible refine SqI ?_ (fun Kv hN hX hR => ?_)); (next => exact rfl)) | ((with_reducible refine JnI ?_ ?_); (next => exact rfl)) | ((with_reducible first | refine hN _ ?_ | refine hX _ _ ?_ | refine hR _ ?_); (try (clear hG; clear Kg)); clear hN hX hR; clear Kv) | ((conv => whnf); first | (with_reducible first | rfl | exact True.intro | intro _ | refine And.intro ?_ ?_) | ((with_reducible first | refine hN _ ?_ | refine hX _ _ ?_ | refine hR _ ?_); (try (clear hG; clear Kg)); clear hN hX hR; clear Kv) | (with_reducible first | refine BdS (fun Kv hN hX hR => ?_) | refine Stop.mk ?_ | refine Join.mk ⟨fun Kv hN hX hR => ?_, ?_⟩ | refine DrawJ.each ?_ | exact SubJ.self _) | with_reducible refine SubJ.of ?_ | (with_reducible first | refine FlS (fun Kf hF => ?_) | refine FlN ?_ | refine NdS (fun Kg hG => ?_) | (refine hF _ _ ?_; clear hF; clear Kf) | (refine hG _ _ _ _ ?_; clear hG; clear Kg))))); all_goals (conv => whnf); all_goals (repeat ((try (clear hG; clear Kg)); clear hN hX hR; clear Kv))
              all_goals first
                | exact wrapI (by omega) (by omega)
                | rfl)
         | (have h := of_decide_eq_false (show decide ((i : Int) < (xs.length : Nat)) = false by with_reducible assumption)
            obtain rfl : i = xs.length := by omega
            have h2 := hi.2.1
            rw [List.take_of_length_le (Nat.le_refl _)] at h2
            have h3 : Rising xs := rising_adj hi.2.2
            by_cases h4 : xs.length ≤ 16
            · rw [passB_iff.2 ⟨h4, h3, h2⟩]
              exact decide_eq_true (by omega)
            · rw [passB_no (fun h => h4 h.1)]
              exact decide_eq_false (by omega))
         | skip)
    | skip
theorem k_has : Known Try.prog tau 58 (S2 dInts dInt fun l x => okB (hasI l x)) := by
  refine known2 hmix tau_ok ctx_nil (fn := Try.f58) (by kernel_rfl) [] (by kernel_rfl) _ _ _ fun xs x hfit => ⟨rfl,
    [(2, invN [4, 5, 6, 7, 8, 9, 10, 11, 12, 13, 14, 15, 16, 17] (fun i => i ≤ xs.length ∧ ∀ y ∈ xs.take i, ¬ y = x) (fun i => withS [(5, .int .i64 i)]) (fun i => xs.length - i))], ?_⟩
  have hlen : xs.length * 8 ≤ 140737488355328 := hfit.1
  clear hfit
  (repeat' (first | ((with_reducible refine BdI ?_); (first | ((with_reducible refine SqI ?_ (fun Kv hN hX hR => ?_)); (next => exact rfl)) | ((with_reducible refine JnI ?_ ?_); (next => exact rfl)) | (conv => whnf))) | (with_reducible first | refine BdS (fun Kv hN hX hR => ?_) | refine Stop.mk ?_ | refine Join.mk ⟨fun Kv hN hX hR => ?_, ?_⟩ | refine DrawJ.each ?_ | exact SubJ.self _) | with_reducible refine SubJ.of ?_ | (with_reducible first | refine FlS (fun Kf hF => ?_) | refine FlN ?_ | refine NdS (fun Kg hG => ?_) | (refine hF _ _ ?_; clear hF; clear Kf) | (refine hG _ _ _ _ ?_; clear hG; clear Kg)) | ((with_reducible refine SqI ?_ (fun Kv hN hX hR => ?_)); (next => exact rfl)) | ((with_reducible refine JnI ?_ ?_); (next => exact rfl)) | ((with_reducible first | refine hN _ ?_ | refine hX _ _ ?_ | refine hR _ ?_); (try (clear hG; clear Kg)); clear hN hX hR; clear Kv) | ((conv => whnf); first | (with_reducible first | rfl | exact True.intro | refine (fun (_ : (_ : Prop)) => ?_) | refine And.intro ?_ ?_) | ((with_reducible first | refine hN _ ?_ | refine hX _ _ ?_ | refine hR _ ?_); (try (clear hG; clear Kg)); clear hN hX hR; clear Kv) | (with_reducible first | refine BdS (fun Kv hN hX hR => ?_) | refine Stop.mk ?_ | refine Join.mk ⟨fun Kv hN hX hR => ?_, ?_⟩ | refine DrawJ.each ?_ | exact SubJ.self _) | with_reducible refine SubJ.of ?_ | (with_reducible first | refine FlS (fun Kf hF => ?_) | refine FlN ?_ | refine NdS (fun Kg hG => ?_) | (refine hF _ _ ?_; clear hF; clear Kf) | (refine hG _ _ _ _ ?_; clear hG; clear Kg))))); all_goals (conv => whnf); all_goals (repeat ((try (clear hG; clear Kg)); clear hN hX hR; clear Kv))
  all_goals first
    | (refine ⟨0, ⟨by omega, by simp⟩, ?_⟩
       (repeat' (first | ((with_reducible refine BdI ?_); (first | ((with_reducible refine SqI ?_ (fun Kv hN hX hR => ?_)); (next => exact rfl)) | ((with_reducible refine JnI ?_ ?_); (next => exact rfl)) | (conv => whnf))) | (with_reducible first | refine BdS (fun Kv hN hX hR => ?_) | refine Stop.mk ?_ | refine Join.mk ⟨fun Kv hN hX hR => ?_, ?_⟩ | refine DrawJ.each ?_ | exact SubJ.self _) | with_reducible refine SubJ.of ?_ | (with_reducible first | refine FlS (fun Kf hF => ?_) | refine FlN ?_ | refine NdS (fun Kg hG => ?_) | (refine hF _ _ ?_; clear hF; clear Kf) | (refine hG _ _ _ _ ?_; clear hG; clear Kg)) | ((with_reducible refine SqI ?_ (fun Kv hN hX hR => ?_)); (next => exact rfl)) | ((with_reducible refine JnI ?_ ?_); (next => exact rfl)) | ((with_reducible first | refine hN _ ?_ | refine hX _ _ ?_ | refine hR _ ?_); (try (clear hG; clear Kg)); clear hN hX hR; clear Kv) | ((conv => whnf); first | (with_reducible first | rfl | exact True.intro | intro _ | refine And.intro ?_ ?_) | ((with_reducible first | refine hN _ ?_ | refine hX _ _ ?_ | refine hR _ ?_); (try (clear hG; clear Kg)); clear hN hX hR; clear Kv) | (with_reducible first | refine BdS (fun Kv hN hX hR => ?_) | refine Stop.mk ?_ | refine Join.mk ⟨fun Kv hN hX hR => ?_, ?_⟩ | refine DrawJ.each ?_ | exact SubJ.self _) | with_reducible refine SubJ.of ?_ | (with_reducible first | refine FlS (fun Kf hF => ?_) | refine FlN ?_ | refine NdS (fun Kg hG => ?_) | (refine hF _ _ ?_; clear hF; clear Kf) | (refine hG _ _ _ _ ?_; clear hG; clear Kg))))); all_goals (conv => whnf); all_goals (repeat ((try (clear hG; clear Kg)); clear hN hX hR; clear Kv))
       all_goals rfl)
    | (with_reducible intro i hi
       (repeat' (first | ((with_reducible refine BdI ?_); (first | ((with_reducible refine SqI ?_ (fun Kv hN hX hR => ?_)); (next => exact rfl)) | ((with_reducible refine JnI ?_ ?_); (next => exact rfl)) | (conv => whnf))) | (with_reducible first | refine BdS (fun Kv hN hX hR => ?_) | refine Stop.mk ?_ | refine Join.mk ⟨fun Kv hN hX hR => ?_, ?_⟩ | refine DrawJ.each ?_ | exact SubJ.self _) | with_reducible refine SubJ.of ?_ | (with_reducible first | refine FlS (fun Kf hF => ?_) | refine FlN ?_ | refine NdS (fun Kg hG => ?_) | (refine hF _ _ ?_; clear hF; clear Kf) | (refine hG _ _ _ _ ?_; clear hG; clear Kg)) | ((with_reducible refine SqI ?_ (fun Kv hN hX hR => ?_)); (next => exact rfl)) | ((with_reducible refine JnI ?_ ?_); (next => exact rfl)) | ((with_reducible first | refine hN _ ?_ | refine hX _ _ ?_ | refine hR _ ?_); (try (clear hG; clear Kg)); clear hN hX hR; clear Kv) | ((conv => whnf); first | (with_reducible first | rfl | exact True.intro | intro _ | refine And.intro ?_ ?_) | ((with_reducible first | refine hN _ ?_ | refine hX _ _ ?_ | refine hR _ ?_); (try (clear hG; clear Kg)); clear hN hX hR; clear Kv) | (with_reducible first | refine BdS (fun Kv hN hX hR => ?_) | refine Stop.mk ?_ | refine Join.mk ⟨fun Kv hN hX hR => ?_, ?_⟩ | refine DrawJ.each ?_ | exact SubJ.self _) | with_reducible refine SubJ.of ?_ | (with_reducible first | refine FlS (fun Kf hF => ?_) | refine FlN ?_ | refine NdS (fun Kg hG => ?_) | (refine hF _ _ ?_; clear hF; clear Kf) | (refine hG _ _ _ _ ?_; clear hG; clear Kg))))); all_goals (conv => whnf); all_goals (repeat ((try (clear hG; clear Kg)); clear hN hX hR; clear Kv))
       all_goals (try simp only [Int.toNat_natCast] at *)
       all_goals first
         | exact Ob.mk ⟨by omega, of_decide_eq_true (by with_reducible assumption)⟩
         | (have h := of_decide_eq_true (show decide ((i : Int) < (xs.length : Nat)) = true by with_reducible assumption)
            have hm := of_decide_eq_true (show decide (xs.getD i 0 = x) = true by with_reducible assumption)
            exact (List.any_eq_true.2 ⟨xs.getD i 0, getD_mem (by omega), by simpa using hm⟩).symm)
         | (have h := of_decide_eq_true (show decide ((i : Int) < (xs.length : Nat)) = true by with_reducible assumption)
            have hm := of_decide_eq_false (show decide (xs.getD i 0 = x) = false by with_reducible assumption)
            refine ⟨i + 1, ⟨by omega, all_take_succ (d := 0) (by omega) hi.2 hm⟩, by show xs.length - (i + 1) < xs.length - i; omega, ?_⟩
            (repeat' (first | ((with_reducible refine BdI ?_); (first | ((with_reducible refine SqI ?_ (fun Kv hN hX hR => ?_)); (next => exact rfl)) | ((with_reducible refine JnI ?_ ?_); (next => exact rfl)) | (conv => whnf))) | (with_reducible first | refine BdS (fun Kv hN hX hR => ?_) | refine Stop.mk ?_ | refine Join.mk ⟨fun Kv hN hX hR => ?_, ?_⟩ | refine DrawJ.each ?_ | exact SubJ.self _) | with_reducible refine SubJ.of ?_ | (with_reducible first | refine FlS (fun Kf hF => ?_) | refine FlN ?_ | refine NdS (fun Kg hG => ?_) | (refine hF _ _ ?_; clear hF; clear Kf) | (refine hG _ _ _ _ ?_; clear hG; clear Kg)) | ((with_reducible refine SqI ?_ (fun Kv hN hX hR => ?_)); (next => exact rfl)) | ((with_reducible refine JnI ?_ ?_); (next => exact rfl)) | ((with_reducible first | refine hN _ ?_ | refine hX _ _ ?_ | refine hR _ ?_); (try (clear hG; clear Kg)); clear hN hX hR; clear Kv) | ((conv => whnf); first | (with_reducible first | rfl | exact True.intro | intro _ | refine And.intro ?_ ?_) | ((with_reducible first | refine hN _ ?_ | refine hX _ _ ?_ | refine hR _ ?_); (try (clear hG; clear Kg)); clear hN hX hR; clear Kv) | (with_reducible first | refine BdS (fun Kv hN hX hR => ?_) | refine Stop.mk ?_ | refine Join.mk ⟨fun Kv hN hX hR => ?_, ?_⟩ | refine DrawJ.each ?_ | exact SubJ.self _) | with_reducible refine SubJ.of ?_ | (with_reducible first | refine FlS (fun Kf hF => ?_) | refine FlN ?_ | refine NdS (fun Kg hG => ?_) | (refine hF _ _ ?_; clear hF; clear Kf) | (refine hG _ _ _ _ ?_; clear hG; clear Kg))))); all_goals (conv => whnf); all_goals (repeat ((try (clear hG; clear Kg)); clear hN hX hR; clear Kv))
            all_goals first
              | exact wrapI (by omega) (by omega)
              | rfl)
         | (have h := of_decide_eq_false (show decide ((i : Int) < (xs.length : Nat)) = false by with_reducible assumption)
            have h2 := hi.2
            rw [List.take_of_length_le (by omega)] at h2
            exact (List.any_eq_false.2 (fun y hy => by simpa using h2 y hy)).symm)
         | skip)
    | skip
end Go.Proofs.Ytaapoiikbolgnaa

/- Contracts: who was lost, with one more. -/
namespace Go.Proofs.Ytaapoiikbolgnaa
open Go.RowKit
set_option maxRecDepth 20000

set_option maxHeartbeats 1000000 in
theorem k_refPassMay : Known Try.prog tau 60 (S1 dInts fun l => okB (passB l)) := by
  refine known1 hmix tau_ok (ctx_cons k_refPlaces ctx_nil) (fn := Try.f60) (by kernel_rfl) [(4, [(0, 0), (1, 0), (2, 2), (3, 5), (4, 8), (5, 0), (6, 0), (7, 96), (8, 128), (9, 272)])] (by kernel_rfl) _ _ fun xs hfit => ⟨rfl,
    [(2, invN [2, 3, 4, 5, 6, 7, 8, 9, 10, 11, 12, 13, 14, 15, 16, 17, 18, 19] (fun i => 1 ≤ i ∧ (i = 1 ∨ i ≤ xs.length) ∧ ∀ t, t + 1 < i → xs.getD t 0 < xs.getD (t + 1) 0) (fun i => withS [(3, .int .i64 i)]) (fun i => xs.length - i))], ?_⟩
  have hlen : xs.length * 8 ≤ 140737488355328 := hfit.1
  clear hfit
  (repeat' (first | ((with_reducible refine BdI ?_); (first | ((with_reducible refine SqI ?_ (fun Kv hN hX hR => ?_)); (next => exact rfl)) | ((with_reducible refine JnI ?_ ?_); (next => exact rfl)) | (conv => whnf))) | (with_reducible first | refine BdS (fun Kv hN hX hR => ?_) | refine Stop.mk ?_ | refine Join.mk ⟨fun Kv hN hX hR => ?_, ?_⟩ | apply DrawJ.join | exact SubJ.self _) | ((with_reducible refine SubJ.of ?_); (repeat' (first | with_reducible rfl | ((conv => whnf) <;> (first | with_reducible exact True.intro | with_reducible refine And.intro ?_ ?_ | with_reducible rfl | ((conv => rhs; whnf) <;> with_reducible rfl))))); done) | (with_reducible first | refine FlS (fun Kf hF => ?_) | refine FlN ?_ | refine NdS (fun Kg hG => ?_) | (refine hF _ _ ?_; clear hF; clear Kf) | (refine hG _ _ _ _ ?_; clear hG; clear Kg)) | ((with_reducible refine SqI ?_ (fun Kv hN hX hR => ?_)); (next => exact rfl)) | ((with_reducible refine JnI ?_ ?_); (next => exact rfl)) | ((with_reducible first | refine hN _ ?_ | refine hX _ _ ?_ | refine hR _ ?_); (try (clear hG; clear Kg)); clear hN hX hR; clear Kv) | ((conv => whnf); first | (with_reducible first | rfl | exact True.intro | refine (fun (_ : (_ : Prop)) => ?_) | refine And.intro ?_ ?_) | ((with_reducible first | refine hN _ ?_ | refine hX _ _ ?_ | refine hR _ ?_); (try (clear hG; clear Kg)); clear hN hX hR; clear Kv) | (with_reducible first | refine BdS (fun Kv hN hX hR => ?_) | refine Stop.mk ?_ | refine Join.mk ⟨fun Kv hN hX hR => ?_, ?_⟩ | apply DrawJ.join | exact SubJ.self _) | ((with_reducible refine SubJ.of ?_); (repeat' (first | with_reducible rfl | ((conv => whnf) <;> (first | with_reducible exact True.intro | with_reducible refine And.intro ?_ ?_ | with_reducible rfl | ((conv => rhs; whnf) <;> with_reducible rfl))))); done) | (with_reducible first | refine FlS (fun Kf hF => ?_) | refine FlN ?_ | refine NdS (fun Kg hG => ?_) | (refine hF _ _ ?_; clear hF; clear Kf) | (refine hG _ _ _ _ ?_; clear hG; clear Kg))))); all_goals (conv => whnf); all_goals (repeat ((try (clear hG; clear Kg)); clear hN hX hR; clear Kv))
  all_goals first
    | (refine ⟨1, ⟨by omega, by simp, by intros; omega⟩, ?_⟩
       (repeat' (first | ((with_reducible refine BdI ?_); (first | ((with_reducible refine SqI ?_ (fun Kv hN hX hR => ?_)); (next => exact rfl)) | ((with_reducible refine JnI ?_ ?_); (next => exact rfl)) | (conv => whnf))) | (with_reducible first | refine BdS (fun Kv hN hX hR => ?_) | refine Stop.mk ?_ | refine Join.mk ⟨fun Kv hN hX hR => ?_, ?_⟩ | refine DrawJ.each ?_ | exact SubJ.self _) | with_reducible refine SubJ.of ?_ | (with_reducible first | refine FlS (fun Kf hF => ?_) | refine FlN ?_ | refine NdS (fun Kg hG => ?_) | (refine hF _ _ ?_; clear hF; clear Kf) | (refine hG _ _ _ _ ?_; clear hG; clear Kg)) | ((with_reducible refine SqI ?_ (fun Kv hN hX hR => ?_)); (next => exact rfl)) | ((with_reducible refine JnI ?_ ?_); (next => exact rfl)) | ((with_reducible first | refine hN _ ?_ | refine hX _ _ ?_ | refine hR _ ?_); (try (clear hG; clear Kg)); clear hN hX hR; clear Kv) | ((conv => whnf); first | (with_reducible first | rfl | exact True.intro | intro _ | refine And.intro ?_ ?_) | ((with_reducible first | refine hN _ ?_ | refine hX _ _ ?_ | refine hR _ ?_); (try (clear hG; clear Kg)); clear hN hX hR; clear Kv) | (with_reducible first | refine BdS (fun Kv hN hX hR => ?_) | refine Stop.mk ?_ | refine Join.mk ⟨fun Kv hN hX hR => ?_, ?_⟩ | refine DrawJ.each ?_ | exact SubJ.self _) | with_reducible refine SubJ.of ?_ | (with_reducible first | refine FlS (fun Kf hF => ?_) | refine FlN ?_ | refine NdS (fun Kg hG => ?_) | (refine hF _ _ ?_; clear hF; clear Kf) | (refine hG _ _ _ _ ?_; clear hG; clear Kg))))); all_goals (conv => whnf); all_goals (repeat ((try (clear hG; clear Kg)); clear hN hX hR; clear Kv))
       all_goals rfl)
    | (with_reducible intro i hi
       (repeat' (first | ((with_reducible refine BdI ?_); (first | ((with_reducible refine SqI ?_ (fun Kv hN hX hR => ?_)); (next => exact rfl)) | ((with_reducible refine JnI ?_ ?_); (next => exact rfl)) | (conv => whnf))) | (with_reducible first | refine BdS (fun Kv hN hX hR => ?_) | refine Stop.mk ?_ | refine Join.mk ⟨fun Kv hN hX hR => ?_, ?_⟩ | apply DrawJ.join | exact SubJ.self _) | ((with_reducible refine SubJ.of ?_); (repeat' (first | with_reducible rfl | ((conv => whnf) <;> (first | with_reducible exact True.intro | with_reducible refine And.intro ?_ ?_ | with_reducible rfl | ((conv => rhs; whnf) <;> with_reducible rfl))))); done) | (with_reducible first | refine FlS (fun Kf hF => ?_) | refine FlN ?_ | refine NdS (fun Kg hG => ?_) | (refine hF _ _ ?_; clear hF; clear Kf) | (refine hG _ _ _ _ ?_; clear hG; clear Kg)) | ((with_reducible refine SqI ?_ (fun Kv hN hX hR => ?_)); (next => exact rfl)) | ((with_reducible refine JnI ?_ ?_); (next => exact rfl)) | ((with_reducible first | refine hN _ ?_ | refine hX _ _ ?_ | refine hR _ ?_); (try (clear hG; clear Kg)); clear hN hX hR; clear Kv) | ((conv => whnf); first | (with_reducible first | rfl | exact True.intro | intro _ | refine And.intro ?_ ?_) | ((with_reducible first | refine hN _ ?_ | refine hX _ _ ?_ | refine hR _ ?_); (try (clear hG; clear Kg)); clear hN hX hR; clear Kv) | (with_reducible first | refine BdS (fun Kv hN hX hR => ?_) | refine Stop.mk ?_ | refine Join.mk ⟨fun Kv hN hX hR => ?_, ?_⟩ | apply DrawJ.join | exact SubJ.self _) | ((with_reducible refine SubJ.of ?_); (repeat' (first | with_reducible rfl | ((conv => whnf) <;> (first | with_reducible exact True.intro | with_reducible refine And.intro ?_ ?_ | with_reducible rfl | ((conv => rhs; whnf) <;> with_reducible rfl))))); done) | (with_reducible first | refine FlS (fun Kf hF => ?_) | refine FlN ?_ | refine NdS (fun Kg hG => ?_) | (refine hF _ _ ?_; clear hF; clear Kf) | (refine hG _ _ _ _ ?_; clear hG; clear Kg))))); all_goals (conv => whnf); all_goals (repeat ((try (clear hG; clear Kg)); clear hN hX hR; clear Kv))
       all_goals first
         | (have h := of_decide_eq_true (show decide ((i : Int) < (xs.length : Nat)) = true by with_reducible assumption)
            have hb := back1 (i := i) (by omega) (by omega)
            first
              | exact Ob.mk ⟨by omega, h⟩
              | exact Ob.mk (by rw [hb.2]; omega)
              | (have hm := of_decide_eq_true (show decide (xs.getD (i : Int).toNat 0 ≤ xs.getD (IntKind.i64.wrap ((i : Int) - 1)).toNat 0) = true by with_reducible assumption)
                 rw [hb.1, Int.toNat_natCast] at hm
                 refine (passB_no ?_).symm
                 rintro ⟨_, h2, _⟩
                 have := h2 (i - 1) i (by omega) (by omega)
                 omega)
              | (have hm := of_decide_eq_false (show decide (xs.getD (i : Int).toNat 0 ≤ xs.getD (IntKind.i64.wrap ((i : Int) - 1)).toNat 0) = false by with_reducible assumption)
                 rw [hb.1, Int.toNat_natCast] at hm
                 refine ⟨i + 1, ⟨by omega, .inr (by omega), fun t ht => ?_⟩, by show xs.length - (i + 1) < xs.length - i; omega, ?_⟩
                 · rcases Nat.lt_or_eq_of_le (Nat.le_of_lt_succ ht) with h3 | h3
                   · exact hi.2.2 t h3
                   · rw [show t = i - 1 by omega, show i - 1 + 1 = i by omega]
                     omega
                 · (repeat' (first | ((with_reducible refine BdI ?_); (first | ((with_reducible refine SqI ?_ (fun Kv hN hX hR => ?_)); (next => exact rfl)) | ((with_reducible refine JnI ?_ ?_); (next => exact rfl)) | (conv => whnf))) | (with_reducible first | refine BdS (fun Kv hN hX hR => ?_) | refine Stop.mk ?_ | refine Join.mk ⟨fun Kv hN hX hR => ?_, ?_⟩ | refine DrawJ.each ?_ | exact SubJ.self _) | with_reducible refine SubJ.of ?_ | (with_reducible first | refine FlS (fun Kf hF => ?_) | refine FlN ?_ | refine NdS (fun Kg hG => ?_) | (refine hF _ _ ?_; clear hF; clear Kf) | (refine hG _ _ _ _ ?_; clear hG; clear Kg)) | ((with_reducible refine SqI ?_ (fun Kv hN hX hR => ?_)); (next => exact rfl)) | ((with_reducible refine JnI ?_ ?_); (next => exact rfl)) | ((with_reducible first | refine hN _ ?_ | refine hX _ _ ?_ | refine hR _ ?_); (try (clear hG; clear Kg)); clear hN hX hR; clear Kv) | ((conv => whnf); first | (with_reducible first | rfl | exact True.intro | intro _ | refine And.intro ?_ ?_) | ((with_reducible first | refine hN _ ?_ | refine hX _ _ ?_ | refine hR _ ?_); (try (clear hG; clear Kg)); clear hN hX hR; clear Kv) | (with_reducible first | refine BdS (fun Kv hN hX hR => ?_) | refine Stop.mk ?_ | refine Join.mk ⟨fun Kv hN hX hR => ?_, ?_⟩ | refine DrawJ.each ?_ | exact SubJ.self _) | with_reducible refine SubJ.of ?_ | (with_reducible first | refine FlS (fun Kf hF => ?_) | refine FlN ?_ | refine NdS (fun Kg hG => ?_) | (refine hF _ _ ?_; clear hF; clear Kf) | (refine hG _ _ _ _ ?_; clear hG; clear Kg))))); all_goals (conv => whnf); all_goals (repeat ((try (clear hG; clear Kg)); clear hN hX hR; clear Kv))
                   all_goals first
                     | exact wrapI (by omega) (by omega)
                     | rfl))
         | (have h := of_decide_eq_false (show decide ((i : Int) < (xs.length : Nat)) = false by with_reducible assumption)
            have h3 : Rising xs := rising_adj (fun t ht => hi.2.2 t (by omega))
            have h2 : xs.all placeB = true := by with_reducible assumption
            by_cases h4 : xs.length ≤ 16
            · rw [passB_iff.2 ⟨h4, h3, List.all_eq_true.1 h2⟩]
              exact decide_eq_true (by omega)
            · rw [passB_no (fun h => h4 h.1)]
              exact decide_eq_false (by omega))
         | (have h2 : xs.all placeB = false := by with_reducible assumption
            refine (passB_no ?_).symm
            rintro ⟨_, _, h3⟩
            rw [List.all_eq_true.2 h3] at h2
            simp at h2)
         | trace_state)
    | skip
/-- A place put into its row. -/
def insP (l : List Int) (x : Int) : List Int := l.take (l.countP fun y => decide (y < x)) ++ [x] ++ l.drop (l.countP fun y => decide (y < x))
noncomputable def withP (l : List Int) (x : Int) : List Int × Int := Classical.choose (seal_ex (if passB l = true ∧ placeB x = true then (if hasI l x = true then (l, (0 : Int)) else if l.length = 16 then ([], 801) else (insP l x, 0)) else ([], 800)))
theorem withP_def (l : List Int) (x : Int) : withP l x = if passB l = true ∧ placeB x = true then (if hasI l x = true then (l, (0 : Int)) else if l.length = 16 then ([], 801) else (insP l x, 0)) else ([], 800) := Classical.choose_spec (seal_ex _)
noncomputable def oWith (l : List Int) (x : Int) : Out := .ok (.tup [.own 0, .int .i64 (withP l x).2]) [.ints (withP l x).1]
theorem withP_no {l : List Int} {x : Int} (h : passB l = false ∨ placeB x = false) : withP l x = ([], 800) := by
  rw [withP_def, if_neg]
  rintro ⟨h1, h2⟩
  rcases h with h | h <;> simp_all
theorem withP_has {l : List Int} {x : Int} (h1 : passB l = true) (h2 : placeB x = true) (h : hasI l x = true) : withP l x = (l, 0) := by
  rw [withP_def, if_pos ⟨h1, h2⟩, if_pos h]
theorem withP_full {l : List Int} {x : Int} (h1 : passB l = true) (h2 : placeB x = true) (h : hasI l x = false) (h3 : l.length = 16) : withP l x = ([], 801) := by
  rw [withP_def, if_pos ⟨h1, h2⟩, if_neg (by rw [h]; simp), if_pos h3]
theorem withP_yes {l : List Int} {x : Int} (h1 : passB l = true) (h2 : placeB x = true) (h : hasI l x = false) (h3 : ¬ l.length = 16) : withP l x = (insP l x, 0) := by
  rw [withP_def, if_pos ⟨h1, h2⟩, if_neg (by rw [h]; simp), if_neg h3]
theorem k_passWith : Known Try.prog tau 38 (S2 dInts dInt oWith) := by
  refine knownX2 hmix tau_ok (fn := Try.f38) (by kernel_rfl) [] (by kernel_rfl) _ _ _ fun xs x hfit => ⟨rfl, _, ctx_tr t_InsertInts (ctx_cons k_passMay (ctx_cons k_Place (ctx_cons k_search (ctx_cons k_CloneInts ctx_nil)))), [], ?_⟩
  clear hfit
  (repeat' (first | ((with_reducible refine BdI ?_); (first | ((with_reducible refine SqI ?_ (fun Kv hN hX hR => ?_)); (next => exact rfl)) | ((with_reducible refine JnI ?_ ?_); (next => exact rfl)) | (conv => whnf))) | (with_reducible first | refine BdS (fun Kv hN hX hR => ?_) | refine Stop.mk ?_ | refine Join.mk ⟨fun Kv hN hX hR => ?_, ?_⟩ | refine DrawJ.each ?_ | exact SubJ.self _) | with_reducible refine SubJ.of ?_ | (with_reducible first | refine FlS (fun Kf hF => ?_) | refine FlN ?_ | refine NdS (fun Kg hG => ?_) | (refine hF _ _ ?_; clear hF; clear Kf) | (refine hG _ _ _ _ ?_; clear hG; clear Kg)) | ((with_reducible refine SqI ?_ (fun Kv hN hX hR => ?_)); (next => exact rfl)) | ((with_reducible refine JnI ?_ ?_); (next => exact rfl)) | ((with_reducible first | refine hN _ ?_ | refine hX _ _ ?_ | refine hR _ ?_); (try (clear hG; clear Kg)); clear hN hX hR; clear Kv) | ((conv => whnf); first | (with_reducible first | rfl | exact True.intro | intro _ | refine And.intro ?_ ?_) | ((with_reducible first | refine hN _ ?_ | refine hX _ _ ?_ | refine hR _ ?_); (try (clear hG; clear Kg)); clear hN hX hR; clear Kv) | (with_reducible first | refine BdS (fun Kv hN hX hR => ?_) | refine Stop.mk ?_ | refine Join.mk ⟨fun Kv hN hX hR => ?_, ?_⟩ | refine DrawJ.each ?_ | exact SubJ.self _) | with_reducible refine SubJ.of ?_ | (with_reducible first | refine FlS (fun Kf hF => ?_) | refine FlN ?_ | refine NdS (fun Kg hG => ?_) | (refine hF _ _ ?_; clear hF; clear Kf) | (refine hG _ _ _ _ ?_; clear hG; clear Kg))))); all_goals (conv => whnf); all_goals (repeat ((try (clear hG; clear Kg)); clear hN hX hR; clear Kv))
  all_goals first
    | (rw [withP_no (.inl (nf (by with_reducible assumption)))] <;> rfl)
    | (rw [withP_no (.inr (nf (by with_reducible assumption)))] <;> rfl)
    | (have h1 := nt (show (!passB xs) = false by with_reducible assumption)
       have h2 := nt (show (!placeB x) = false by with_reducible assumption)
       have hp := passB_iff.1 h1
       have hc : xs.countP (fun y => decide (y < x)) ≤ xs.length := List.countP_le_length
       first
         | exact Ob.mk hp.2.1
         | (rw [withP_has h1 h2 (by with_reducible assumption)] <;> rfl)
         | (have h4 := of_decide_eq_true (show decide ((xs.length : Int) = 16) = true by with_reducible assumption)
            rw [withP_full h1 h2 (by with_reducible assumption) (by omega)] <;> rfl)
         | (have h4 := of_decide_eq_false (show decide ((xs.length : Int) = 16) = false by with_reducible assumption)
            refine Ob.mk ⟨by unfold cntI; omega, by unfold cntI; omega, ?_⟩
            simp only [Rw.bts, Rw.kd, kdBytes]
            omega)
         | (have h4 := of_decide_eq_false (show decide ((xs.length : Int) = 16) = false by with_reducible assumption)
            rw [withP_yes h1 h2 (by with_reducible assumption) (by omega)] <;> rfl))
    | trace_state
/-- Two rows that rise and have the same members are one. -/
theorem asc_ext : ∀ {l m : List Int}, l.Pairwise (· < ·) → m.Pairwise (· < ·) → (∀ x, x ∈ l ↔ x ∈ m) → l = m
  | [], [], _, _, _ => rfl
  | [], b :: m, _, _, h => absurd ((h b).2 (List.mem_cons_self ..)) (by simp)
  | a :: l, [], _, _, h => absurd ((h a).1 (List.mem_cons_self ..)) (by simp)
  | a :: l, b :: m, hl, hm, h => by
    rw [List.pairwise_cons] at hl hm
    have e : a = b := by
      rcases List.mem_cons.1 ((h a).1 (List.mem_cons_self ..)) with h1 | h1
      · exact h1
      · rcases List.mem_cons.1 ((h b).2 (List.mem_cons_self ..)) with h2 | h2
        · exact h2.symm
        · have := hm.1 a h1
          have := hl.1 b h2
          omega
    subst e
    refine congrArg (a :: ·) (asc_ext hl.2 hm.2 fun x => ?_)
    constructor
    · intro hx
      rcases List.mem_cons.1 ((h x).1 (List.mem_cons_of_mem _ hx)) with h2 | h2
      · subst h2; exact absurd (hl.1 x hx) (by omega)
      · exact h2
    · intro hx
      rcases List.mem_cons.1 ((h x).2 (List.mem_cons_of_mem _ hx)) with h2 | h2
      · subst h2; exact absurd (hm.1 x hx) (by omega)
      · exact h2
theorem cnt_split : ∀ {l : List Int} {x : Int}, l.Pairwise (· < ·) → (∀ y ∈ l.take (l.countP fun y => decide (y < x)), y < x) ∧ ∀ y ∈ l.drop (l.countP fun y => decide (y < x)), x ≤ y
  | [], _, _ => by simp
  | a :: l, x, h => by
    rw [List.pairwise_cons] at h
    have ih := cnt_split (x := x) h.2
    by_cases ha : a < x
    · have e : List.countP (fun y => decide (y < x)) (a :: l) = l.countP (fun y => decide (y < x)) + 1 := by simp [List.countP_cons, ha]
      rw [e]
      constructor
      · intro y hy
        rw [List.take_succ_cons] at hy
        rcases List.mem_cons.1 hy with rfl | hy
        · exact ha
        · exact ih.1 y hy
      · intro y hy
        rw [List.drop_succ_cons] at hy
        exact ih.2 y hy
    · have e : List.countP (fun y => decide (y < x)) (a :: l) = 0 := by
        rw [List.countP_eq_zero]
        intro y hy
        rcases List.mem_cons.1 hy with rfl | hy
        · simpa using ha
        · have := h.1 y hy
          simp; omega
      rw [e]
      constructor
      · intro y hy; simp at hy
      · intro y hy
        rcases List.mem_cons.1 hy with rfl | hy
        · omega
        · have := h.1 y hy
          omega
theorem mem_insP {l : List Int} {x y : Int} : y ∈ insP l x ↔ y = x ∨ y ∈ l := by
  unfold insP
  have e : l = l.take (l.countP fun y => decide (y < x)) ++ l.drop (l.countP fun y => decide (y < x)) := (List.take_append_drop ..).symm
  simp only [List.mem_append, List.mem_singleton]
  conv => rhs; rhs; rw [e, List.mem_append]
  constructor
  · rintro ((h | h) | h)
    · exact .inr (.inl h)
    · exact .inl h
    · exact .inr (.inr h)
  · rintro (h | h | h)
    · exact .inl (.inr h)
    · exact .inl (.inl h)
    · exact .inr h
theorem asc_insP {l : List Int} {x : Int} (h : l.Pairwise (· < ·)) (hx : x ∉ l) : (insP l x).Pairwise (· < ·) := by
  have hc := cnt_split (x := x) h
  unfold insP
  rw [List.append_assoc, List.pairwise_append]
  refine ⟨h.sublist (List.take_sublist ..), ?_, ?_⟩
  · rw [List.singleton_append, List.pairwise_cons]
    refine ⟨fun y hy => ?_, h.sublist (List.drop_sublist ..)⟩
    have := hc.2 y hy
    have : y ≠ x := fun e => hx (e ▸ List.mem_of_mem_drop hy)
    omega
  · intro a ha b hb
    have h1 := hc.1 a ha
    rcases List.mem_append.1 hb with hb | hb
    · simp at hb; omega
    · have := hc.2 b hb
      omega
/-- The places of [0, i) that are told. -/
def filtP (l : List Int) (x : Int) (i : Nat) : List Int := ((List.range i).map fun (t : Nat) => (t : Int)).filter fun y => decide (y = x) || hasI l y
theorem filtP_succ (l : List Int) (x : Int) (i : Nat) : filtP l x (i + 1) = filtP l x i ++ (if (decide ((i : Int) = x) || hasI l i) = true then [(i : Int)] else []) := by
  unfold filtP
  rw [List.range_succ, List.map_append, List.filter_append]
  congr 1
  simp [List.filter_cons]
theorem hasI_iff {l : List Int} {x : Int} : hasI l x = true ↔ x ∈ l := by
  simp only [hasI, List.any_eq_true, decide_eq_true_eq]
  exact ⟨fun ⟨y, h, e⟩ => e ▸ h, fun h => ⟨x, h, rfl⟩⟩
theorem mem_filtP {l : List Int} {x y : Int} (hl : ∀ z ∈ l, placeB z = true) (hx : placeB x = true) : y ∈ filtP l x 256 ↔ y = x ∨ y ∈ l := by
  unfold filtP
  rw [List.mem_filter, Bool.or_eq_true, decide_eq_true_eq, hasI_iff]
  constructor
  · exact fun h => h.2
  · intro h
    refine ⟨?_, h⟩
    have : placeB y = true := by
      rcases h with rfl | h
      · exact hx
      · exact hl y h
    simp only [placeB, Bool.and_eq_true, decide_eq_true_eq] at this
    rw [List.mem_map]
    exact ⟨y.toNat, by rw [List.mem_range]; omega, by omega⟩
theorem asc_filtP (l : List Int) (x : Int) (i : Nat) : (filtP l x i).Pairwise (· < ·) := by
  unfold filtP
  refine List.Pairwise.sublist List.filter_sublist ?_
  rw [List.pairwise_map]
  exact List.pairwise_lt_range.imp (fun h => by omega)
theorem filtP_has {l : List Int} {x : Int} (h1 : passB l = true) (h2 : placeB x = true) (h : hasI l x = true) : filtP l x 256 = l := by
  have hp := passB_iff.1 h1
  refine asc_ext (asc_filtP l x 256) (rising_iff.1 hp.2.1) fun y => ?_
  rw [mem_filtP hp.2.2 h2]
  exact ⟨fun h3 => h3.elim (fun e => e ▸ hasI_iff.1 h) id, .inr⟩
theorem filtP_not {l : List Int} {x : Int} (h1 : passB l = true) (h2 : placeB x = true) (h : hasI l x = false) : filtP l x 256 = insP l x := by
  have hp := passB_iff.1 h1
  have hx : x ∉ l := fun e => by rw [hasI_iff.2 e] at h; simp at h
  refine asc_ext (asc_filtP l x 256) (asc_insP (rising_iff.1 hp.2.1) hx) fun y => ?_
  rw [mem_filtP hp.2.2 h2, mem_insP]
theorem insP_len (l : List Int) (x : Int) : (insP l x).length = l.length + 1 := by
  have : l.countP (fun y => decide (y < x)) ≤ l.length := List.countP_le_length
  simp [insP]
  omega
theorem withP_filt {l : List Int} {x : Int} (h1 : passB l = true) (h2 : placeB x = true) : withP l x = if 16 < (filtP l x 256).length then ([], 801) else (filtP l x 256, 0) := by
  have hp := passB_iff.1 h1
  cases h : hasI l x with
  | true => rw [filtP_has h1 h2 h, withP_has h1 h2 h, if_neg (by omega)]
  | false =>
    rw [filtP_not h1 h2 h, insP_len]
    by_cases h3 : l.length = 16
    · rw [withP_full h1 h2 h h3, if_pos (by omega)]
    · rw [withP_yes h1 h2 h h3, if_neg (by omega)]
theorem filtP_len (l : List Int) (x : Int) (i : Nat) : (filtP l x i).length ≤ i := by
  unfold filtP
  refine Nat.le_trans (List.length_filter_le ..) ?_
  simp
set_option maxHeartbeats 1000000 in
theorem k_refWith : Known Try.prog tau 39 (S2 dInts dInt oWith) := by
  refine known2 hmix tau_ok (ctx_cons k_refPassMay (ctx_cons k_refPlace (ctx_cons k_has ctx_nil))) (fn := Try.f39) (by kernel_rfl) [] (by kernel_rfl) _ _ _ fun xs x hfit => ⟨rfl,
    [(5, invX (Nat × List Int) [6, 7, 16, 17, 18, 19, 20, 21, 22, 23, 24, 25, 26, 27, 28, 29, 30, 31] [31] (fun g => g.1 ≤ 256 ∧ filtP xs x g.1 = g.2) (fun g st => match g.2 with
      | [] => withS [(7, .int .i64 g.1), (6, .nilS (.ints []))] st
      | y :: ys => withS [(7, .int .i64 g.1), (6, .own 31)] (withR [(31, .own (.ints (y :: ys)))] st)) (fun g => 256 - g.1))], ?_⟩
  clear hfit
  (repeat' (first | ((with_reducible refine BdI ?_); (first | ((with_reducible refine SqI ?_ (fun Kv hN hX hR => ?_)); (next => exact rfl)) | ((with_reducible refine JnI ?_ ?_); (next => exact rfl)) | (conv => whnf))) | (with_reducible first | refine BdS (fun Kv hN hX hR => ?_) | refine Stop.mk ?_ | refine Join.mk ⟨fun Kv hN hX hR => ?_, ?_⟩ | refine DrawJ.each ?_ | exact SubJ.self _) | with_reducible refine SubJ.of ?_ | (with_reducible first | refine FlS (fun Kf hF => ?_) | refine FlN ?_ | refine NdS (fun Kg hG => ?_) | (refine hF _ _ ?_; clear hF; clear Kf) | (refine hG _ _ _ _ ?_; clear hG; clear Kg)) | ((with_reducible refine SqI ?_ (fun Kv hN hX hR => ?_)); (next => exact rfl)) | ((with_reducible refine JnI ?_ ?_); (next => exact rfl)) | ((with_reducible first | refine hN _ ?_ | refine hX _ _ ?_ | refine hR _ ?_); (try (clear hG; clear Kg)); clear hN hX hR; clear Kv) | ((conv => whnf); first | (with_reducible first | rfl | exact True.intro | refine (fun (_ : (_ : Prop)) => ?_) | refine And.intro ?_ ?_) | ((with_reducible first | refine hN _ ?_ | refine hX _ _ ?_ | refine hR _ ?_); (try (clear hG; clear Kg)); clear hN hX hR; clear Kv) | (with_reducible first | refine BdS (fun Kv hN hX hR => ?_) | refine Stop.mk ?_ | refine Join.mk ⟨fun Kv hN hX hR => ?_, ?_⟩ | refine DrawJ.each ?_ | exact SubJ.self _) | with_reducible refine SubJ.of ?_ | (with_reducible first | refine FlS (fun Kf hF => ?_) | refine FlN ?_ | refine NdS (fun Kg hG => ?_) | (refine hF _ _ ?_; clear hF; clear Kf) | (refine hG _ _ _ _ ?_; clear hG; clear Kg))))); all_goals (conv => whnf); all_goals (repeat ((try (clear hG; clear Kg)); clear hN hX hR; clear Kv))
  all_goals first
    | (rw [withP_no (.inl (nf (by with_reducible assumption)))] <;> rfl)
    | (rw [withP_no (.inr (nf (by with_reducible assumption)))] <;> rfl)
    | (refine ⟨(0, []), ⟨by omega, rfl⟩, ?_⟩
       (repeat' (first | ((with_reducible refine BdI ?_); (first | ((with_reducible refine SqI ?_ (fun Kv hN hX hR => ?_)); (next => exact rfl)) | ((with_reducible refine JnI ?_ ?_); (next => exact rfl)) | (conv => whnf))) | (with_reducible first | refine BdS (fun Kv hN hX hR => ?_) | refine Stop.mk ?_ | refine Join.mk ⟨fun Kv hN hX hR => ?_, ?_⟩ | refine DrawJ.each ?_ | exact SubJ.self _) | with_reducible refine SubJ.of ?_ | (with_reducible first | refine FlS (fun Kf hF => ?_) | refine FlN ?_ | refine NdS (fun Kg hG => ?_) | (refine hF _ _ ?_; clear hF; clear Kf) | (refine hG _ _ _ _ ?_; clear hG; clear Kg)) | ((with_reducible refine SqI ?_ (fun Kv hN hX hR => ?_)); (next => exact rfl)) | ((with_reducible refine JnI ?_ ?_); (next => exact rfl)) | ((with_reducible first | refine hN _ ?_ | refine hX _ _ ?_ | refine hR _ ?_); (try (clear hG; clear Kg)); clear hN hX hR; clear Kv) | ((conv => whnf); first | (with_reducible first | rfl | exact True.intro | intro _ | refine And.intro ?_ ?_) | ((with_reducible first | refine hN _ ?_ | refine hX _ _ ?_ | refine hR _ ?_); (try (clear hG; clear Kg)); clear hN hX hR; clear Kv) | (with_reducible first | refine BdS (fun Kv hN hX hR => ?_) | refine Stop.mk ?_ | refine Join.mk ⟨fun Kv hN hX hR => ?_, ?_⟩ | refine DrawJ.each ?_ | exact SubJ.self _) | with_reducible refine SubJ.of ?_ | (with_reducible first | refine FlS (fun Kf hF => ?_) | refine FlN ?_ | refine NdS (fun Kg hG => ?_) | (refine hF _ _ ?_; clear hF; clear Kf) | (refine hG _ _ _ _ ?_; clear hG; clear Kg))))); all_goals (conv => whnf); all_goals (repeat ((try (clear hG; clear Kg)); clear hN hX hR; clear Kv))
       all_goals rfl)
    | (rintro ⟨i, ys⟩ ⟨hi, hf⟩
       dsimp only at hi hf
       rcases ys with _ | ⟨y, ys⟩
       all_goals
         (repeat' (first | ((with_reducible refine BdI ?_); (first | ((with_reducible refine SqI ?_ (fun Kv hN hX hR => ?_)); (next => exact rfl)) | ((with_reducible refine JnI ?_ ?_); (next => exact rfl)) | (conv => whnf))) | (with_reducible first | refine BdS (fun Kv hN hX hR => ?_) | refine Stop.mk ?_ | refine Join.mk ⟨fun Kv hN hX hR => ?_, ?_⟩ | refine DrawJ.each ?_ | exact SubJ.self _) | with_reducible refine SubJ.of ?_ | (with_reducible first | refine FlS (fun Kf hF => ?_) | refine FlN ?_ | refine NdS (fun Kg hG => ?_) | (refine hF _ _ ?_; clear hF; clear Kf) | (refine hG _ _ _ _ ?_; clear hG; clear Kg)) | ((with_reducible refine SqI ?_ (fun Kv hN hX hR => ?_)); (next => exact rfl)) | ((with_reducible refine JnI ?_ ?_); (next => exact rfl)) | ((with_reducible first | refine hN _ ?_ | refine hX _ _ ?_ | refine hR _ ?_); (try (clear hG; clear Kg)); clear hN hX hR; clear Kv) | ((conv => whnf); first | (with_reducible first | rfl | exact True.intro | intro _ | refine And.intro ?_ ?_) | ((with_reducible first | refine hN _ ?_ | refine hX _ _ ?_ | refine hR _ ?_); (try (clear hG; clear Kg)); clear hN hX hR; clear Kv) | (with_reducible first | refine BdS (fun Kv hN hX hR => ?_) | refine Stop.mk ?_ | refine Join.mk ⟨fun Kv hN hX hR => ?_, ?_⟩ | refine DrawJ.each ?_ | exact SubJ.self _) | with_reducible refine SubJ.of ?_ | (with_reducible first | refine FlS (fun Kf hF => ?_) | refine FlN ?_ | refine NdS (fun Kg hG => ?_) | (refine hF _ _ ?_; clear hF; clear Kf) | (refine hG _ _ _ _ ?_; clear hG; clear Kg))))); all_goals (conv => whnf); all_goals (repeat ((try (clear hG; clear Kg)); clear hN hX hR; clear Kv))
       all_goals (try dsimp only at *)
       all_goals first
         | (refine Ob.mk ?_
            simp only [Rw.len, Rw.bts, Rw.kd, kdBytes, List.length_cons, List.length_nil, List.length_append]
            have hl := filtP_len xs x i
            rw [hf] at hl
            simp only [List.length_cons, List.length_nil] at hl
            omega)
         | (have h := of_decide_eq_true (show decide ((i : Int) < 256) = true by with_reducible assumption)
            have hs := filtP_succ xs x i
            rw [hf] at hs
            first
              | (have h2 : decide ((i : Int) = x) = true := by with_reducible assumption
                 rw [h2, Bool.true_or, if_pos rfl] at hs
                 refine ⟨(i + 1, _), ⟨by show i + 1 ≤ 256; omega, hs⟩, by show 256 - (i + 1) < 256 - i; omega, ?_⟩
                 (repeat' (first | ((with_reducible refine BdI ?_); (first | ((with_reducible refine SqI ?_ (fun Kv hN hX hR => ?_)); (next => exact rfl)) | ((with_reducible refine JnI ?_ ?_); (next => exact rfl)) | (conv => whnf))) | (with_reducible first | refine BdS (fun Kv hN hX hR => ?_) | refine Stop.mk ?_ | refine Join.mk ⟨fun Kv hN hX hR => ?_, ?_⟩ | refine DrawJ.each ?_ | exact SubJ.self _) | with_reducible refine SubJ.of ?_ | (with_reducible first | refine FlS (fun Kf hF => ?_) | refine FlN ?_ | refine NdS (fun Kg hG => ?_) | (refine hF _ _ ?_; clear hF; clear Kf) | (refine hG _ _ _ _ ?_; clear hG; clear Kg)) | ((with_reducible refine SqI ?_ (fun Kv hN hX hR => ?_)); (next => exact rfl)) | ((with_reducible refine JnI ?_ ?_); (next => exact rfl)) | ((with_reducible first | refine hN _ ?_ | refine hX _ _ ?_ | refine hR _ ?_); (try (clear hG; clear Kg)); clear hN hX hR; clear Kv) | ((conv => whnf); first | (with_reducible first | rfl | exact True.intro | intro _ | refine And.intro ?_ ?_) | ((with_reducible first | refine hN _ ?_ | refine hX _ _ ?_ | refine hR _ ?_); (try (clear hG; clear Kg)); clear hN hX hR; clear Kv) | (with_reducible first | refine BdS (fun Kv hN hX hR => ?_) | refine Stop.mk ?_ | refine Join.mk ⟨fun Kv hN hX hR => ?_, ?_⟩ | refine DrawJ.each ?_ | exact SubJ.self _) | with_reducible refine SubJ.of ?_ | (with_reducible first | refine FlS (fun Kf hF => ?_) | refine FlN ?_ | refine NdS (fun Kg hG => ?_) | (refine hF _ _ ?_; clear hF; clear Kf) | (refine hG _ _ _ _ ?_; clear hG; clear Kg))))); all_goals (conv => whnf); all_goals (repeat ((try (clear hG; clear Kg)); clear hN hX hR; clear Kv))
                 all_goals first
                   | exact wrapI (by omega) (by omega)
                   | rfl)
              | (have h2 : decide ((i : Int) = x) = false := by with_reducible assumption
                 have h3 : hasI xs i = true := by with_reducible assumption
                 rw [h2, h3, Bool.false_or, if_pos rfl] at hs
                 refine ⟨(i + 1, _), ⟨by show i + 1 ≤ 256; omega, hs⟩, by show 256 - (i + 1) < 256 - i; omega, ?_⟩
                 (repeat' (first | ((with_reducible refine BdI ?_); (first | ((with_reducible refine SqI ?_ (fun Kv hN hX hR => ?_)); (next => exact rfl)) | ((with_reducible refine JnI ?_ ?_); (next => exact rfl)) | (conv => whnf))) | (with_reducible first | refine BdS (fun Kv hN hX hR => ?_) | refine Stop.mk ?_ | refine Join.mk ⟨fun Kv hN hX hR => ?_, ?_⟩ | refine DrawJ.each ?_ | exact SubJ.self _) | with_reducible refine SubJ.of ?_ | (with_reducible first | refine FlS (fun Kf hF => ?_) | refine FlN ?_ | refine NdS (fun Kg hG => ?_) | (refine hF _ _ ?_; clear hF; clear Kf) | (refine hG _ _ _ _ ?_; clear hG; clear Kg)) | ((with_reducible refine SqI ?_ (fun Kv hN hX hR => ?_)); (next => exact rfl)) | ((with_reducible refine JnI ?_ ?_); (next => exact rfl)) | ((with_reducible first | refine hN _ ?_ | refine hX _ _ ?_ | refine hR _ ?_); (try (clear hG; clear Kg)); clear hN hX hR; clear Kv) | ((conv => whnf); first | (with_reducible first | rfl | exact True.intro | intro _ | refine And.intro ?_ ?_) | ((with_reducible first | refine hN _ ?_ | refine hX _ _ ?_ | refine hR _ ?_); (try (clear hG; clear Kg)); clear hN hX hR; clear Kv) | (with_reducible first | refine BdS (fun Kv hN hX hR => ?_) | refine Stop.mk ?_ | refine Join.mk ⟨fun Kv hN hX hR => ?_, ?_⟩ | refine DrawJ.each ?_ | exact SubJ.self _) | with_reducible refine SubJ.of ?_ | (with_reducible first | refine FlS (fun Kf hF => ?_) | refine FlN ?_ | refine NdS (fun Kg hG => ?_) | (refine hF _ _ ?_; clear hF; clear Kf) | (refine hG _ _ _ _ ?_; clear hG; clear Kg))))); all_goals (conv => whnf); all_goals (repeat ((try (clear hG; clear Kg)); clear hN hX hR; clear Kv))
                 all_goals first
                   | exact wrapI (by omega) (by omega)
                   | rfl)
              | (have h2 : decide ((i : Int) = x) = false := by with_reducible assumption
                 have h3 : hasI xs i = false := by with_reducible assumption
                 rw [h2, h3, Bool.false_or, if_neg (by simp), List.append_nil] at hs
                 refine ⟨(i + 1, _), ⟨by show i + 1 ≤ 256; omega, hs⟩, by show 256 - (i + 1) < 256 - i; omega, ?_⟩
                 (repeat' (first | ((with_reducible refine BdI ?_); (first | ((with_reducible refine SqI ?_ (fun Kv hN hX hR => ?_)); (next => exact rfl)) | ((with_reducible refine JnI ?_ ?_); (next => exact rfl)) | (conv => whnf))) | (with_reducible first | refine BdS (fun Kv hN hX hR => ?_) | refine Stop.mk ?_ | refine Join.mk ⟨fun Kv hN hX hR => ?_, ?_⟩ | refine DrawJ.each ?_ | exact SubJ.self _) | with_reducible refine SubJ.of ?_ | (with_reducible first | refine FlS (fun Kf hF => ?_) | refine FlN ?_ | refine NdS (fun Kg hG => ?_) | (refine hF _ _ ?_; clear hF; clear Kf) | (refine hG _ _ _ _ ?_; clear hG; clear Kg)) | ((with_reducible refine SqI ?_ (fun Kv hN hX hR => ?_)); (next => exact rfl)) | ((with_reducible refine JnI ?_ ?_); (next => exact rfl)) | ((with_reducible first | refine hN _ ?_ | refine hX _ _ ?_ | refine hR _ ?_); (try (clear hG; clear Kg)); clear hN hX hR; clear Kv) | ((conv => whnf); first | (with_reducible first | rfl | exact True.intro | intro _ | refine And.intro ?_ ?_) | ((with_reducible first | refine hN _ ?_ | refine hX _ _ ?_ | refine hR _ ?_); (try (clear hG; clear Kg)); clear hN hX hR; clear Kv) | (with_reducible first | refine BdS (fun Kv hN hX hR => ?_) | refine Stop.mk ?_ | refine Join.mk ⟨fun Kv hN hX hR => ?_, ?_⟩ | refine DrawJ.each ?_ | exact SubJ.self _) | with_reducible refine SubJ.of ?_ | (with_reducible first | refine FlS (fun Kf hF => ?_) | refine FlN ?_ | refine NdS (fun Kg hG => ?_) | (refine hF _ _ ?_; clear hF; clear Kf) | (refine hG _ _ _ _ ?_; clear hG; clear Kg))))); all_goals (conv => whnf); all_goals (repeat ((try (clear hG; clear Kg)); clear hN hX hR; clear Kv))
                 all_goals first
                   | exact wrapI (by omega) (by omega)
                   | rfl))
         | (have h := of_decide_eq_false (show decide ((i : Int) < 256) = false by with_reducible assumption)
            obtain rfl : i = 256 := by omega
            have hw := withP_filt (nt (show (!passB xs) = false by with_reducible assumption)) (nt (show (!placeB x) = false by with_reducible assumption))
            rw [hf] at hw
            first
              | (have h4 := of_decide_eq_true (show decide ((16 : Int) < (((y :: ys).length : Nat) : Int)) = true by with_reducible assumption)
                 rw [if_pos (by simp only [List.length_cons] at h4 ⊢; omega)] at hw
                 rw [hw] <;> rfl)
              | (have h4 := of_decide_eq_false (show decide ((16 : Int) < (((y :: ys).length : Nat) : Int)) = false by with_reducible assumption)
                 rw [if_neg (by simp only [List.length_cons] at h4 ⊢; omega)] at hw
                 rw [hw] <;> rfl)
              | (rw [if_neg (by simp)] at hw
                 rw [hw] <;> rfl)
              | (exfalso; simp_all; done)
              | trace_state)
         | trace_state)
    | skip
end Go.Proofs.Ytaapoiikbolgnaa
