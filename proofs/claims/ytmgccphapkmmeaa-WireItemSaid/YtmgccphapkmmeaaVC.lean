/- A symbolic executor for loaded Go code: its steps on values alone are the machine's. -/
import Derived.Test.YtmgccphapkmmeaaVB
import Derived.Test.YtmgccphapkmmeaaVS
namespace Go.Proofs.Ytmgccphapkmmeaa
open Go.RowKit

/-! ### 1. Types -/
def tdOk (d : TypeDesc) : TD → Prop
  | .int k => d = .int k
  | .bool => d = .bool
  | .str => d = .string
  | .slice e => d = .slice e
  | .struct fs => ∃ fa : Array Field, d = .struct fa ∧ ∀ j, nth fs j = (fa[j]?).map fun f => (f.offset, f.type)
  | .arr n e => d = .array n e
  | .other => match d with
    | .struct _ => False
    | .array _ _ => False
    | _ => True
structure TiOk (P : Program) (τ : Tys) (T : TypeId) (i : TI) : Prop where
  flds : ∀ fs, i.td = .struct fs → ∀ j p, nth fs j = some p → ∃ i', τ.ti p.2 = some i'
  elem : ∀ n e, i.td = .arr n e → ∃ i', τ.ti e = some i'
  info : ∃ x z, P.info? T = some x ∧ x.size = i.sz ∧ x.bytes = i.bytes ∧ x.zero = some z ∧ z.cells.size = i.sz ∧ ∀ E R w, L0 (vd0 E R w) i.zero z.cells.toList
  und : ∃ d, P.underlying T = some d ∧ tdOk d i.td
/-- Where equality of structs of a type is that of their cells. -/
def EqOk (P : Program) (T : TypeId) (sh : List Nat) : Prop := ∀ (E : Env) (R : List (Nat × Ent)) (w : World) (a b : List SV) (us vs : List Value) (e : Bool), eqCells sh a b = some e → L0 (vd1 E R w) a us → L0 (vd1 E R w) b vs →
  (∀ op x y, (eqGuard op T x y (.agg us.toArray) (.agg vs.toArray)).run P w = .ok () w) ∧ (Op.equal T (.agg us.toArray) (.agg vs.toArray)).run P w = .ok e w
structure TysOk (P : Program) (τ : Tys) : Prop where
  ti : ∀ T i, τ.ti T = some i → TiOk P τ T i
  sh : ∀ T sh, τ.sh T = some sh → EqOk P T sh
  rk : ∀ e k, τ.rk e = some k → k < 10 ∧ τ.et k = e ∧ ∃ i, τ.ti e = some i ∧ i.sz = kdSz k ∧ i.bytes = kdBytes k ∧ FitL i.zero ((Rw.zeros k 1).cell .any 0) ∧ ∀ t r, SV.row t r ∉ i.zero
section
variable {P : Program} {τ : Tys} (hτ : TysOk P τ)
include hτ
theorem TysOk.td {T : TypeId} {d : TD} (h : τ.td T = d) (hd : d ≠ .other) : ∃ u, P.underlying T = some u ∧ tdOk u d := by
  unfold Tys.td at h
  split at h
  · rename_i i hi
    subst h
    exact (hτ.ti T i hi).und
  · exact absurd h.symm hd
theorem TysOk.slice {T e : TypeId} (h : τ.td T = .slice e) : P.underlying T = some (.slice e) := by
  obtain ⟨u, hu, hd⟩ := hτ.td h (by simp)
  rw [hu, show u = _ from hd]
theorem TysOk.szOf {T : TypeId} {i : TI} (h : τ.ti T = some i) (w : World) : (sizeOf T).run P w = .ok (τ.sz T) w := by
  obtain ⟨x, z, hx, hs, _⟩ := (hτ.ti T i h).info
  simp [sizeOf, typeInfo, hx, hs, Tys.sz, h]
theorem TysOk.isAgg {T : TypeId} {i : TI} (h : τ.ti T = some i) (w : World) : (isAgg T).run P w = .ok (τ.agg T) w := by
  obtain ⟨d, hu, hd⟩ := (hτ.ti T i h).und
  simp only [Go.isAgg, Sem.run_bind, run_underlying hu, Result.andThen_ok, Tys.agg, Tys.td, h]
  cases htd : i.td <;> rw [htd] at hd <;> simp only [tdOk] at hd <;> first
    | (subst hd; rfl)
    | (obtain ⟨fa, rfl, _⟩ := hd; rfl)
    | (cases d <;> first | rfl | exact hd.elim)
theorem TysOk.kindZero {T : TypeId} {k : Nat} (h : τ.rowKind T = some k) : ∃ e, P.underlying T = some (.slice e) := by
  unfold Tys.rowKind at h
  split at h
  · rename_i e he
    exact ⟨e, hτ.slice he⟩
  · simp at h
end

/-! ### 2. Operands -/
theorem len_mkEmpty (k : Nat) : (mkEmpty k).len = 0 := by unfold mkEmpty; split <;> rfl
theorem vd_ofVal (E : Env) (R : List (Nat × Ent)) (w : World) (v : Value) : vd3 E R w (SV.ofVal v) v := by cases v <;> first | rfl | trivial
section
variable {P : Program} {τ : Tys} {w0 : World} {E : Env} {s : St} {as : List (Array Value)} {a : Act} {w : World}
theorem Den.get (h : Den τ w0 E s (a.tmps :: as) w) (x : Operand) : vd3 E s.rows w (s.get x) (a.eval x) := by
  cases x with
  | tmp t =>
    obtain ⟨b, hb, hf⟩ := h.fr 0 s.fr (by simp)
    simp at hb
    subst hb
    exact hf t
  | const v => exact vd_ofVal _ _ _ v
  | func f => exact ⟨[], [], rfl, L0.nil, L0.nil⟩
  | global g => trivial
theorem Den.getT (h : Den τ w0 E s (a.tmps :: as) w) (T : TypeId) (x : Operand) : vd3 E s.rows w (getT τ s T x) (a.eval x) := by
  unfold Go.Proofs.Ytmgccphapkmmeaa.getT
  split
  · split
    · exact ⟨rfl, len_mkEmpty _⟩
    · trivial
  · exact h.get x
end

/-! ### 3. Whole numbers, bools, strings -/
theorem sameK_eq {k k' : IntKind} (h : sameK k k' = true) : k = k' := by cases k <;> cases k' <;> first | rfl | simp [sameK] at h
theorem asBool_vd {E : Env} {R : List (Nat × Ent)} {w : World} {x : SV} {v : Value} {b : Bool} (h : x.asBool = some b) (hv : vd3 E R w x v) : v = .bool b := by
  cases x <;> simp [SV.asBool] at h <;> (subst h; exact hv)
/-- A result holds what is claimed of it, under what it asks. -/
def RV.good (r : RV) (p : SV → Prop) : Prop := match r with
  | .ok x => p x
  | .ob q x => q → p x
  | .bad => True
/-- That computation gives a value that a symbolic value tells. -/
def Gives {P : Program} (w : World) (c : Sem Value) (x : SV) (E : Env) (R : List (Nat × Ent)) : Prop := ∃ z, c.run P w = .ok z w ∧ vd3 E R w x z
theorem evInt_ok {P : Program} {w : World} {E : Env} {R : List (Nat × Ent)} {op : BinOp} {k : IntKind} {a b : Int} (T : TypeId) :
    (evInt op k a b).good fun x => Gives (P := P) w (binOp op T (.int k a) (.int k b)) x E R := by
  cases op <;> simp only [evInt, RV.good, Gives]
  · exact ⟨_, by rw [binOp_add]; rfl, rfl⟩
  · exact ⟨_, by rw [binOp_sub]; rfl, rfl⟩
  · exact ⟨_, by rw [binOp_mul]; rfl, rfl⟩
  · intro h; exact ⟨_, by rw [binOp_quo, Op.intDiv, if_neg h]; rfl, rfl⟩
  · intro h; exact ⟨_, by rw [binOp_rem, Op.intDiv, if_neg h]; rfl, rfl⟩
  · exact ⟨_, by rw [binOp_and]; rfl, rfl⟩
  · exact ⟨_, by rw [binOp_or]; rfl, rfl⟩
  · exact ⟨_, by rw [binOp_xor]; rfl, rfl⟩
  · exact ⟨_, by rw [binOp_andNot]; rfl, rfl⟩
  · exact ⟨_, by rw [binOp_eql]; rfl, by simp only [vd3, vd2, vd1, vd0]; rfl⟩
  · exact ⟨_, by rw [binOp_neq]; rfl, by simp only [vd3, vd2, vd1, vd0]; rfl⟩
  · exact ⟨_, by rw [binOp_lss]; rfl, rfl⟩
  · exact ⟨_, by rw [binOp_leq]; rfl, rfl⟩
  · exact ⟨_, by rw [binOp_gtr]; rfl, rfl⟩
  · exact ⟨_, by rw [binOp_geq]; rfl, rfl⟩
theorem eqGuard_one {P : Program} {w : World} (op : BinOp) (T : TypeId) (x y : Operand) (u v : Value) (hu : ∀ cs, u ≠ .agg cs) (hn : u ≠ .nilIface) : (eqGuard op T x y u v).run P w = .ok () w := by
  unfold eqGuard
  cases op <;> cases u <;> first | rfl | exact absurd rfl hn | exact absurd rfl (hu _)
theorem evBin_ok {P : Program} {τ : Tys} (hτ : TysOk P τ) {w : World} {E : Env} {R : List (Nat × Ent)} {op : BinOp} (T : TypeId) (px py : Operand) {x y : SV} {u v : Value} (hx : vd3 E R w x u) (hy : vd3 E R w y v) :
    (evBin τ T op x y).good fun z => Gives (P := P) w (do eqGuard op T px py u v; binOp op T u v) z E R := by
  unfold evBin
  split
  · -- two whole numbers
    rename_i k a k' b
    obtain rfl : u = .int k a := hx
    obtain rfl : v = .int k' b := hy
    simp only [eqGuard_at_int]
    split
    · intro h
      refine ⟨_, by simp only [Sem.run_bind, Sem.run_pure, Result.andThen_ok]; rw [binOp_shl, shift_shl k k' a b h.1 h.2]; rfl, rfl⟩
    · intro h
      refine ⟨_, by simp only [Sem.run_bind, Sem.run_pure, Result.andThen_ok]; rw [binOp_shr, shift_shr k k' a b h.1 h.2]; rfl, rfl⟩
    · split
      · rename_i hk
        obtain rfl := sameK_eq hk
        have := evInt_ok (P := P) (w := w) (E := E) (R := R) (op := op) (k := k) (a := a) (b := b) T
        cases he : evInt op k a b with
        | bad => trivial
        | ok z => rw [he] at this; obtain ⟨z', h1, h2⟩ := this; exact ⟨z', by simpa using h1, h2⟩
        | ob q z => rw [he] at this; intro hq; obtain ⟨z', h1, h2⟩ := this hq; exact ⟨z', by simpa using h1, h2⟩
      · trivial
  · -- two strings
    rename_i a b
    obtain rfl : u = .string a := hx
    obtain rfl : v = .string b := hy
    simp only [eqGuard_at_string]
    split
    · intro h
      refine ⟨.string (a ++ b), ?_, rfl⟩
      have : ¬ (((a.size + b.size : Nat) : Int) > IntKind.i64.max) := by rw [IntKind.max_i64]; omega
      simp only [Sem.run_bind, Sem.run_pure, Result.andThen_ok, binOp, Op.stringOp, if_neg this]
    · exact ⟨_, by simp only [Sem.run_bind, Sem.run_pure, Result.andThen_ok, binOp, Op.stringOp], rfl⟩
    · exact ⟨_, by simp only [Sem.run_bind, Sem.run_pure, Result.andThen_ok, binOp, Op.stringOp], rfl⟩
    · trivial
  · -- two structs
    rename_i a b
    obtain ⟨us, rfl, hu⟩ := hx
    obtain ⟨vs, rfl, hv⟩ := hy
    split
    · rename_i sh hsh
      split
      · rename_i e he
        obtain ⟨h1, h2⟩ := hτ.sh T sh hsh E R w a b us vs e he hu hv
        exact ⟨_, by simp only [Sem.run_bind, h1, Result.andThen_ok, binOp, h2, Sem.run_pure], rfl⟩
      · rename_i e he
        obtain ⟨h1, h2⟩ := hτ.sh T sh hsh E R w a b us vs e he hu hv
        exact ⟨_, by simp only [Sem.run_bind, h1, Result.andThen_ok, binOp, h2, Sem.run_pure], rfl⟩
      · trivial
    · trivial
  · -- two bools
    split
    · rename_i a b htd ha hb
      obtain rfl := asBool_vd ha hx
      obtain rfl := asBool_vd hb hy
      obtain ⟨d, hd, hd'⟩ := hτ.td htd (by simp)
      rw [show d = .bool from hd'] at hd
      refine ⟨_, by simp only [eqGuard_at_bool, Sem.run_bind, Sem.run_pure, Result.andThen_ok, run_eql_bool w T a b hd], rfl⟩
    · rename_i a b htd ha hb
      obtain rfl := asBool_vd ha hx
      obtain rfl := asBool_vd hb hy
      obtain ⟨d, hd, hd'⟩ := hτ.td htd (by simp)
      rw [show d = .bool from hd'] at hd
      refine ⟨_, by simp only [eqGuard_at_bool, Sem.run_bind, Sem.run_pure, Result.andThen_ok, run_neq_bool w T a b hd], rfl⟩
    · trivial
theorem evUn_ok {P : Program} {w : World} {E : Env} {R : List (Nat × Ent)} {op : UnOp} {x : SV} {u : Value} (hx : vd3 E R w x u) : (evUn op x).good fun z => Gives (P := P) w (Op.unary op u) z E R := by
  unfold evUn
  split
  · obtain rfl : u = _ := hx; exact ⟨_, rfl, rfl⟩
  · obtain rfl : u = _ := hx; exact ⟨_, rfl, rfl⟩
  · obtain rfl : u = _ := hx; exact ⟨_, rfl, rfl⟩
  · obtain rfl : u = _ := hx; exact ⟨_, rfl, rfl⟩
  · trivial
theorem evPick_ok {w : World} {E : Env} {R : List (Nat × Ent)} {c x y : SV} {b u v : Value} (hc : vd3 E R w c b) (hx : vd3 E R w x u) (hy : vd3 E R w y v) :
    (evPick c x y).good fun z => ∃ t, b = .bool t ∧ vd3 E R w z (if t then u else v) := by
  unfold evPick
  split
  · exact ⟨true, hc, hx⟩
  · exact ⟨false, hc, hy⟩
  · rename_i c
    split
    · rename_i p q hp hq
      obtain rfl := asBool_vd hp hx
      obtain rfl := asBool_vd hq hy
      refine ⟨c, hc, ?_⟩
      cases c <;> rfl
    · trivial
  · trivial
/-- Part of a struct's cells. -/
theorem nth_eq {α : Type} (l : List α) (n : Nat) : nth l n = l[n]? := by
  induction l generalizing n with
  | nil => rfl
  | cons x l ih => cases n with
    | zero => rfl
    | succ n => simpa [nth] using ih n
theorem vd_of_vd1 {E : Env} {R : List (Nat × Ent)} {w : World} {x : SV} {u : Value} (h : vd1 E R w x u) : vd3 E R w x u := by
  cases x <;> first | exact h | exact h.elim
theorem part_ok {P : Program} {τ : Tys} (hτ : TysOk P τ) {w : World} {E : Env} {R : List (Nat × Ent)} (T : TypeId) (cs : List SV) (us : List Value) (off : Nat) (h : L0 (vd1 E R w) cs us) :
    (part' τ T cs off).good fun z => Gives (P := P) w (part T us.toArray off) z E R := by
  unfold part'
  split
  · trivial
  rename_i i hi
  split
  · rename_i hag
    split
    · rename_i hle
      rw [forceL_eq]
      refine ⟨.agg (cut us off (τ.sz T)).toArray, ?_, ⟨_, rfl, (h.drop off).take _⟩⟩
      have hle' := Nat.le_of_ble_eq_true hle
      simp only [part, Sem.run_bind, hτ.isAgg hi, Result.andThen_ok, hag, if_true, hτ.szOf hi, Sem.run_pure, cut]
      congr 2
      apply Array.ext'
      simp [List.extract_eq_take_drop]
    · trivial
  · rename_i hag
    split
    · rename_i v hv
      rw [nth_eq] at hv
      obtain ⟨u, hu, hp⟩ := h.2 off v hv
      refine ⟨u, ?_, vd_of_vd1 hp⟩
      simp [part, hτ.isAgg hi, hag, hu]
    · trivial
end Go.Proofs.Ytmgccphapkmmeaa
