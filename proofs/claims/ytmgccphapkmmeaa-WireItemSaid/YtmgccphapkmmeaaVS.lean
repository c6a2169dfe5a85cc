/- A symbolic executor for loaded Go code: its steps. Definitions alone. -/
import Derived.Test.YtmgccphapkmmeaaVA
namespace Go.Proofs.Ytmgccphapkmmeaa
open Go.RowKit

/-- What a call comes to: a value (its own row i stands for the i-th of the new rows), and the new rows. -/
inductive Out where
  | ok (v : SV) (rows : List Rw)
  | ob (p : Prop) (v : SV) (rows : List Rw)
  | bad
abbrev Spec := List SV → Out
/-- What a call does to the state, told by what has to hold behind it. -/
abbrev CallT := List SV → St → (SV → St → Prop) → Prop
structure Ctx where
  spec : FuncId → Option Spec
  tr : FuncId → Option CallT

def elemD (E : Ent) : Bool := match E with
  | .own _ => true
  | _ => false
/-- A row that is written no more. -/
def demote1 (R : List (Nat × Ent)) (k : Nat) : List (Nat × Ent) := match lk R k with
  | some e => match e.row with
    | (t, r) => upd R k (.shared t r)
  | none => R
def demoteL : List SV → List (Nat × Ent) → List (Nat × Ent)
  | [], R => R
  | .own k :: l, R => demoteL l (demote1 R k)
  | _ :: l, R => demoteL l R
def Tag.isNew : Tag → Bool
  | .new => true
  | _ => false
/-- Is each row among them new? -/
def allNew : List SV → Bool
  | [] => true
  | .row t _ :: l => match t with
    | .new => allNew l
    | _ => false
  | .own _ :: _ => false
  | .box _ _ :: _ => false
  | _ :: l => allNew l
def loStep (lo : Nat) (i : Int) : Nat := if i = lo then lo + 1 else lo
def chunks {α : Type} (n : Nat) : Nat → List α → List (List α)
  | 0, _ => []
  | m + 1, l => l.take n :: chunks n m (l.drop n)
def flatZeros (z : List SV) : Nat → List SV
  | 0 => []
  | n + 1 => z ++ flatZeros z n
/-- Is it the value of one cell for sure? -/
def oneOk (R : List (Nat × Ent)) : SV → Bool
  | .junk => false
  | .agg _ => false
  | .tup _ => false
  | .own k => match lk R k with
    | some _ => true
    | none => false
  | .oel k _ _ => match lk R k with
    | some (.own _) => true
    | some (.part _ _) => true
    | _ => false
  | _ => true
def allOne (R : List (Nat × Ent)) : List SV → Bool
  | [] => true
  | v :: l => match oneOk R v with
    | true => allOne R l
    | false => false
/-- A row that is written no more, as a row. -/
def resS (R : List (Nat × Ent)) : SV → SV
  | .own k => match lk R k with
    | some (.shared t r) => .row t r
    | _ => .junk
  | v => v
def resSL (R : List (Nat × Ent)) : List SV → List SV
  | [] => []
  | v :: l => resS R v :: resSL R l
/-- The parts of a literal, laid into its cells. -/
def lay {α : Type} (bad : α) (τ : Tys) (s : St) (place : Nat → Option (Nat × TypeId)) : List (Nat × Operand) → List SV → (List SV → α) → α
  | [], cs, K => K cs
  | (i, x) :: l, cs, K => match place i with
    | some (off, T) => (getT τ s T x).force fun v =>
      match Nat.beq v.cells.length (τ.sz T), Nat.ble (off + τ.sz T) cs.length, allOne s.rows v.cells, τ.ti T with
      | true, true, true, some _ => forceL (setRange cs off v.cells) fun cs' => lay bad τ s place l cs' K
      | _, _, _, _ => bad
    | none => bad
def getN (τ : Tys) (s : St) : List Operand → List TypeId → List SV
  | x :: xs, T :: Ts => getT τ s T x :: getN τ s xs Ts
  | x :: xs, [] => s.get x :: getN τ s xs []
  | [], _ => []
/-- The own rows of a result, under their keys. -/
def renum0 (kb : Nat) : SV → SV
  | .own i => .own (kb + 100000 * i)
  | v => v
def renumL (f : SV → SV) : List SV → List SV
  | [] => []
  | v :: l => f v :: renumL f l
def renum1 (kb : Nat) : SV → SV
  | .agg cs => .agg (renumL (renum0 kb) cs)
  | v => renum0 kb v
def renum2 (kb : Nat) : SV → SV
  | .tup vs => .tup (renumL (renum1 kb) vs)
  | v => renum1 kb v
def dropKey {α : Type} : List (Nat × α) → Nat → List (Nat × α)
  | [], _ => []
  | (k, v) :: l, t => match Nat.beq k t with
    | true => dropKey l t
    | false => (k, v) :: dropKey l t
def allB (p : SV → Bool) : List SV → Bool
  | [] => true
  | v :: l => match p v with
    | true => allB p l
    | false => false
/-- Is none of a call's new rows' keys named? -/
def keysFree (s : St) (kb : Nat) : Nat → Bool
  | 0 => true
  | n + 1 => match s.has (own0 (kb + 100000 * n)) with
    | true => false
    | false => keysFree s kb n
def addRows (R : List (Nat × Ent)) (kb : Nat) : List Rw → Nat → List (Nat × Ent)
  | [], _ => R
  | r :: l, n => addRows (upd R (kb + 100000 * n) (.own r)) kb l (n + 1)
/-- May a result be so: rows that are new, own rows that there are. -/
def resOk0 (n : Nat) : SV → Bool
  | .int _ _ => true
  | .bool _ => true
  | .lit _ => true
  | .str _ => true
  | .row t _ => t.isNew
  | .nilS _ => true
  | .own i => Nat.ble (i + 1) n
  | _ => false
def resOk1 (n : Nat) : SV → Bool
  | .agg cs => allB (resOk0 n) cs
  | v => resOk0 n v
def resOk2 (n : Nat) : SV → Bool
  | .tup vs => allB (resOk1 n) vs
  | v => resOk1 n v
def putRes (d : Option Tmp) (v : SV) (rows : List Rw) (K : St → RS) : St → RS
  | ⟨fr, stk, bx, rw, dep⟩ => match resOk2 rows.length v with
    | true => match d with
      | none => K ⟨fr, stk, bx, rw, dep⟩
      | some d => match keysFree ⟨fr, stk, bx, rw, dep⟩ (dep + d) rows.length with
        | true => (renum2 (dep + d) v).force fun v => K ⟨(d, v) :: fr, stk, bx, addRows rw (dep + d) rows 0, dep⟩
        | false => .bad
    | false => .bad
/-- A row's length, by its list. -/
def Rw.lenK {α : Type} (r : Rw) (K : Nat → α) : α := match r with
  | .ints l => K l.length
  | .bytes l => K l.length
  | .strs l => K l.length
  | .peers l => K l.length
  | .items l => K l.length
  | .tolds l => K l.length
  | .cuts l => K l.length
  | .msgs l => K l.length
  | .nodes l => K l.length
  | .acts l => K l.length
theorem Rw.lenK_eq {α : Type} (r : Rw) (K : Nat → α) : r.lenK K = K r.len := by cases r <;> rfl
def lenOf (R : List (Nat × Ent)) : SV → Option Nat
  | .str s => some s.size
  | .row _ r => r.lenK some
  | .nilS _ => some 0
  | .own k => match lk R k with
    | some e => match e.row with
      | (_, r) => r.lenK some
    | none => none
  | _ => none
def bound (τ : Tys) (s : St) (d : Int) : Option Operand → Option Int
  | none => some d
  | some x => match s.get x with
    | .int _ n => some n
    | _ => none

def stepAlloc (τ : Tys) (T : TypeId) (d : Option Tmp) : St → RS
  | ⟨fr, stk, bx, rw, dep⟩ => match d, τ.ti T with
    | some d, some i => match St.has (box0 (dep + d)) ⟨fr, stk, bx, rw, dep⟩ with
      | false => forceL i.zero fun cs => forceB (upd bx (dep + d) (T, cs)) fun bx' => .ok ⟨(d, .box (dep + d) 0) :: fr, stk, bx', rw, dep⟩
      | true => .bad
    | _, _ => .bad
def stepBox (τ : Tys) (T : TypeId) (x : Operand) (d : Option Tmp) : St → RS
  | ⟨fr, stk, bx, rw, dep⟩ => match d with
    | some d => match St.has (box0 (dep + d)) ⟨fr, stk, bx, rw, dep⟩ with
      | false => (getT τ ⟨fr, stk, bx, rw, dep⟩ T x).force fun v => match allOne rw v.cells with
        | true => forceL v.cells fun cs => forceB (upd bx (dep + d) (T, cs)) fun bx' => .ok ⟨(d, .box (dep + d) 0) :: fr, stk, bx', rw, dep⟩
        | false => .bad
      | true => .bad
    | none => .bad
def evBuild (τ : Tys) (s : St) (T : TypeId) (parts : Array (Nat × Operand)) : RV :=
  match τ.ti T with
  | some i => match i.td with
    | .struct fs => lay .bad τ s (fun i => nth fs i) parts.toList i.zero fun cs => .ok (.agg cs)
    | .arr _ e => lay .bad τ s (fun i => some (i * τ.sz e, e)) parts.toList i.zero fun cs => .ok (.agg cs)
    | _ => .bad
  | none => .bad
def stepLit (τ : Tys) (T : TypeId) (n : Nat) (parts : Array (Nat × Operand)) (d : Option Tmp) : St → RS
  | ⟨fr, stk, bx, rw, dep⟩ => match τ.td T, d with
    | .slice e, some d => match τ.rk e, τ.ti e, Nat.ble (n * τ.sz e) 16777216, St.has (own0 (dep + d)) ⟨fr, stk, bx, rw, dep⟩ with
      | some k, some i, true, false => lay .bad τ ⟨fr, stk, bx, rw, dep⟩ (fun i => some (i * τ.sz e, e)) parts.toList (flatZeros i.zero n) fun cs =>
        match demoteL cs rw with
        | R => forceL (resSL R cs) fun cs' => match mkRow k (chunks (τ.sz e) n cs') with
          | some r => match r.flat, allNew cs' with
            | true, _ => .ok ⟨(d, .own (dep + d)) :: fr, stk, bx, upd R (dep + d) (.own r), dep⟩
            | false, true => .ok ⟨(d, .own (dep + d)) :: fr, stk, bx, upd R (dep + d) (.own r), dep⟩
            | false, false => .ok ⟨(d, .own (dep + d)) :: fr, stk, bx, upd R (dep + d) (.part 0 r), dep⟩
          | none => .bad
      | _, _, _, _ => .bad
    | _, _ => .bad
def retag (t : Tag) : List SV → List SV
  | [] => []
  | .row _ r :: l => .row t r :: retag t l
  | v :: l => v :: retag t l
def evLoad (τ : Tys) (s : St) (T : TypeId) (x : SV) : RV :=
  match x with
  | .box k off => match lk s.boxes k with
    | some (_, cs) => part' τ T cs off
    | none => .bad
  | .pt t cs => forceL (retag t cs) fun cs => part' τ T cs 0
  | .oel k i off => match lk s.rows k with
    | some (.own r) => part' τ T (r.cell .new i.toNat) off
    | some (.part _ r) => part' τ T (r.cell .any i.toNat) off
    | _ => .bad
  | _ => .bad
def stepStore (τ : Tys) (T : TypeId) (x v : Operand) : St → RS
  | ⟨fr, stk, bx, rw, dep⟩ => (St.get ⟨fr, stk, bx, rw, dep⟩ x).force fun p => (getT τ ⟨fr, stk, bx, rw, dep⟩ T v).force fun v =>
    match Nat.beq v.cells.length (τ.sz T), allOne rw v.cells, τ.ti T with
    | true, true, some _ => match p with
      | .box k off => match lk bx k with
        | some (T', cs) => match Nat.ble (off + τ.sz T) cs.length with
          | true => forceB (upd bx k (T', setRange cs off v.cells)) fun bx' => .ok ⟨fr, stk, bx', rw, dep⟩
          | false => .bad
        | none => .bad
      | .oel k i off => match demoteL v.cells rw with
        | R => forceL (resSL R v.cells) fun vs => match lk R k with
          | some (.own r) => match r.setE i.toNat (setRange (r.cell .new i.toNat) off vs), allNew vs, Nat.ble (off + τ.sz T) (kdSz r.kd) with
            | some r', true, true => .ok ⟨fr, stk, bx, upd R k (.own r'), dep⟩
            | _, _, _ => .bad
          | some (.part lo r) => match r.setE i.toNat (setRange (r.cell .any i.toNat) off vs), Nat.ble (off + τ.sz T) (kdSz r.kd) with
            | some r', true => match allNew (setRange (r.cell .any i.toNat) off vs) with
              | true => .ok ⟨fr, stk, bx, upd R k (.part (loStep lo i) r'), dep⟩
              | false => match allNew vs with
                | true => .ok ⟨fr, stk, bx, upd R k (.part lo r'), dep⟩
                | false => .bad
            | _, _ => .bad
          | _ => .bad
      | _ => .bad
    | _, _, _ => .bad
def evField (τ : Tys) (s : St) (S : TypeId) (j : Nat) (x : SV) : RV :=
  match τ.td S with
  | .struct fs => match nth fs j with
    | some (o, F) => match Nat.beq (τ.sz F) 0 with
      | true => .bad
      | false => match x with
        | .box k off => .ok (.box k (off + o))
        | .pt t cs => forceL (cs.drop o) fun cs' => .ok (.pt t cs')
        | .oel k i off => match lk s.rows k with
          | some (.own _) => .ok (.oel k i (off + o))
          | some (.part _ _) => .ok (.oel k i (off + o))
          | _ => .bad
        | _ => .bad
    | none => .bad
  | _ => .bad
def evPart (τ : Tys) (S : TypeId) (j : Nat) (x : SV) : RV :=
  match τ.td S, x with
  | .struct fs, .agg cs => match nth fs j with
    | some (o, F) => part' τ F cs o
    | none => .bad
  | _, _ => .bad
def evIndexAddr (τ : Tys) (s : St) (T : TypeId) (x i : SV) : RV :=
  match τ.td T, i with
  | .slice e, .int _ i => match x with
    | .row t r => match Nat.beq (τ.sz e) r.sz with
      | true => r.lenK fun n => .ob (0 ≤ i ∧ i < n) (.pt t (r.cell t i.toNat))
      | false => .bad
    | .own k => match lk s.rows k with
      | some (.own r) => match Nat.beq (τ.sz e) r.sz with
        | true => r.lenK fun n => .ob (0 ≤ i ∧ i < n) (.oel k i 0)
        | false => .bad
      | some (.part _ r) => match Nat.beq (τ.sz e) r.sz with
        | true => r.lenK fun n => .ob (0 ≤ i ∧ i < n) (.oel k i 0)
        | false => .bad
      | some (.shared t r) => match Nat.beq (τ.sz e) r.sz with
        | true => r.lenK fun n => .ob (0 ≤ i ∧ i < n) (.pt t (r.cell t i.toNat))
        | false => .bad
      | none => .bad
    | _ => .bad
  | _, _ => .bad
noncomputable def evIndex (τ : Tys) (T : TypeId) (x i : SV) : RV :=
  match τ.td T, x, i with
  | .str, .str s, .int _ i => .ob (0 ≤ i ∧ i < s.size) (.int .u8 (byteAt s i.toNat))
  | _, _, _ => .bad
def stepSlice (τ : Tys) (T : TypeId) (x : Operand) (lo hi mx : Option Operand) (d : Option Tmp) (s : St) : RS :=
  match mx with
  | some _ => .bad
  | none => (s.get x).force fun x => match lenOf s.rows x with
    | some n => match bound τ s 0 lo, bound τ s n hi with
      | some l, some h => match τ.td T, x with
        | .str, .str b => .ob (0 ≤ l ∧ l ≤ h ∧ h ≤ n) (putv d (.str (b.extract l.toNat h.toNat)) s)
        | .slice e, .row t r => match Nat.beq (τ.sz e) r.sz with
          | true => .ob (0 ≤ l ∧ l ≤ h ∧ h ≤ n) (putv d (.row t (r.sub l.toNat h.toNat)) s)
          | false => .bad
        | .slice e, .own k => match s with
          | ⟨fr, stk, bx, rw, dep⟩ => match demote1 rw k with
            | R => match lk R k with
              | some (.shared t r) => match Nat.beq (τ.sz e) r.sz with
                | true => .ob (0 ≤ l ∧ l ≤ h ∧ h ≤ n) (putv d (.row t (r.sub l.toNat h.toNat)) ⟨fr, stk, bx, R, dep⟩)
                | false => .bad
              | _ => .bad
        | _, _ => .bad
      | _, _ => .bad
    | none => .bad
/-- What is appended: its tag, its row. -/
def srcOf (R : List (Nat × Ent)) : SV → Option (Tag × Rw)
  | .row t r => some (t, r)
  | .nilS r => some (.new, r)
  | .own k => match lk R k with
    | some e => some e.row
    | none => none
  | _ => none
def tagOk (t : Tag) (r : Rw) : Bool := match r.flat with
  | true => true
  | false => t.isNew
def stepAppend (τ : Tys) (T : TypeId) (x y : Operand) (d : Option Tmp) : St → RS
  | ⟨fr, stk, bx, rw, dep⟩ => match τ.td T, d with
    | .slice e, some d => (getT τ ⟨fr, stk, bx, rw, dep⟩ T x).force fun x => (getT τ ⟨fr, stk, bx, rw, dep⟩ T y).force fun y => match srcOf rw y, τ.rk e with
      | some (t, r2), some kd => match Nat.beq r2.kd kd with
        | true => match x with
          | .nilS r1 => match Nat.beq r1.kd kd, r1.app r2, St.has (own0 (dep + d)) ⟨fr, stk, bx, rw, dep⟩ with
            | true, some r, false => match tagOk t r2 with
              | true => .ob (r2.len * r2.bts ≤ 140737488355328) ⟨(d, .own (dep + d)) :: fr, stk, bx, upd rw (dep + d) (.own r), dep⟩
              | false => .ob (r2.len * r2.bts ≤ 140737488355328) ⟨(d, .own (dep + d)) :: fr, stk, bx, upd rw (dep + d) (.part 0 r), dep⟩
            | _, _, _ => .bad
          | .own k => match lk rw k with
            | some (.own r1) => match Nat.beq r1.kd kd, r1.app r2, tagOk t r2 with
              | true, some r, true => forceF (killF k fr) fun fr' => forceS (killS k stk) fun stk' => forceB (killB k bx) fun bx' =>
                .ob ((r1.len + r2.len) * r2.bts ≤ 140737488355328) ⟨(d, .own k) :: fr', stk', bx', upd rw k (.own r), dep⟩
              | true, some r, false => forceF (killF k fr) fun fr' => forceS (killS k stk) fun stk' => forceB (killB k bx) fun bx' =>
                .ob ((r1.len + r2.len) * r2.bts ≤ 140737488355328) ⟨(d, .own k) :: fr', stk', bx', upd rw k (.part r1.len r), dep⟩
              | _, _, _ => .bad
            | some (.part lo r1) => match Nat.beq r1.kd kd, r1.app r2 with
              | true, some r => forceF (killF k fr) fun fr' => forceS (killS k stk) fun stk' => forceB (killB k bx) fun bx' =>
                .ob ((r1.len + r2.len) * r2.bts ≤ 140737488355328 ∧ lo ≤ r1.len) ⟨(d, .own k) :: fr', stk', bx', upd rw k (.part lo r), dep⟩
              | _, _ => .bad
            | _ => .bad
          | _ => .bad
        | false => .bad
      | _, _ => .bad
    | _, _ => .bad
def bytesOf : List Int → List UInt8
  | [] => []
  | x :: l => UInt8.ofNat x.toNat :: bytesOf l
def evConv (τ : Tys) (s : St) (src dst : TypeId) (x : SV) : RV :=
  match τ.td dst with
  | .int k' => match x, τ.td src with
    | .int _ n, .int _ => .ok (.int k' (k'.wrap n))
    | _, _ => .bad
  | .str => match τ.td src with
    | .str => match x with
      | .str b => .ok (.str b)
      | _ => .bad
    | .slice e => match τ.td e with
      | .int .u8 => match x with
        | .own k => match lk s.rows k with
          | some e => match e.row with
            | (_, .bytes xs) => .ok (.str ⟨(bytesOf xs).toArray⟩)
            | _ => .bad
          | none => .bad
        | .row _ (.bytes xs) => .ok (.str ⟨(bytesOf xs).toArray⟩)
        | _ => .bad
      | _ => .bad
    | _ => .bad
  | _ => .bad
def bytesL (b : ByteArray) : List Int := b.toList.map fun x => (x.toNat : Int)
/-- The bytes of a string: a new row, which is read alone. -/
def stepBytes (τ : Tys) (src dst : TypeId) (x : Operand) (d : Option Tmp) (s : St) : RS := match τ.td dst, τ.td src with
  | .slice e, .str => match τ.td e with
    | .int .u8 => (s.get x).force fun x => match x with
      | .str b => .ob (b.size ≤ 140737488355328) (putv d (.row .new (.bytes (bytesL b))) s)
      | _ => .bad
    | _ => .bad
  | _, _ => .bad
def evCheck (s : St) (x : SV) : RV :=
  match x with
  | .box k off => .ok (.box k off)
  | .pt t cs => .ok (.pt t cs)
  | .oel k i off => match lk s.rows k with
    | some (.own _) => .ok (.oel k i off)
    | some (.part _ _) => .ok (.oel k i off)
    | _ => .bad
  | .clo f a c => .ok (.clo f a c)
  | _ => .bad
def evExtract (x : SV) (j : Nat) : RV :=
  match x with
  | .tup vs => match nth vs j with
    | some v => .ok v
    | none => .bad
  | _ => .bad
def capOk : SV → Bool
  | .agg _ => false
  | .tup _ => false
  | .clo _ _ _ => false
  | _ => true
def firstOk : SV → Bool
  | .agg cs => go cs
  | v => capOk v
where go : List SV → Bool
  | [] => true
  | v :: l => match capOk v with
    | true => go l
    | false => false
def evFunc (fn : Fn) (a c : List SV) : RV :=
  match fn with
  | .func f => match allB firstOk a, allB capOk c with
    | true, true => forceL a fun a => forceL c fun c => .ok (.clo f a c)
    | _, _ => .bad
  | _ => .bad
def evMin (op : Builtin) (x y : SV) : RV :=
  match op, x, y with
  | .min, .int k a, .int _ b => .ok (.int k (if b < a then b else a))
  | .max, .int k a, .int _ b => .ok (.int k (if b > a then b else a))
  | _, _, _ => .bad
def stepMake (τ : Tys) (T : TypeId) (n : Operand) (d : Option Tmp) : St → RS
  | ⟨fr, stk, bx, rw, dep⟩ => match τ.td T, d with
    | .slice e, some d => match τ.rk e, St.get ⟨fr, stk, bx, rw, dep⟩ n, St.has (own0 (dep + d)) ⟨fr, stk, bx, rw, dep⟩ with
      | some kd, .int .i64 n, false => .ob (0 ≤ n ∧ n * kdBytes kd ≤ 140737488355328) ⟨(d, .own (dep + d)) :: fr, stk, bx, upd rw (dep + d) (.own (Rw.zeros kd n.toNat)), dep⟩
      | _, _, _ => .bad
    | _, _ => .bad
def opsList (xs : Array Operand) : List Operand := xs.toList
def stepCall (τ : Tys) (C : Ctx) (c : Call) (d : Option Tmp) (s : St) : RS :=
  match c.callee with
  | .builtin .len => match c.args.toList, c.argTypes.toList with
    | [x], [T] => (s.get x).force fun x => match lenOf s.rows x, τ.td T, x with
      | some n, .str, .str _ => .ok (putv d (.int .i64 n) s)
      | some n, .slice _, .row _ _ => .ok (putv d (.int .i64 n) s)
      | some n, .slice _, .own _ => .ok (putv d (.int .i64 n) s)
      | some n, .slice _, .nilS _ => .ok (putv d (.int .i64 n) s)
      | _, _, _ => .bad
    | _, _ => .bad
  | .builtin .append => match c.args.toList, c.argTypes.toList with
    | [x, y], [T, T'] => match Nat.beq T T' with
      | true => stepAppend τ T x y d s
      | false => .bad
    | _, _ => .bad
  | .builtin .min => match c.args.toList with
    | [x, y] => (s.get x).force fun x => (s.get y).force fun y => (evMin .min x y).to d s
    | _ => .bad
  | .builtin .max => match c.args.toList with
    | [x, y] => (s.get x).force fun x => (s.get y).force fun y => (evMin .max x y).to d s
    | _ => .bad
  | .value f => (s.get f).force fun f => match f with
    | .clo g a cs => match C.spec g with
      | some sp => forceL (mapP (resA s) (a ++ getN τ s c.args.toList c.argTypes.toList ++ cs)) fun args => match sp args with
        | .ok v rows => putRes d v rows (fun s' => .ok s') s
        | .ob p v rows => putRes d v rows (fun s' => .ob p s') s
        | .bad => .bad
      | none => .bad
    | _ => .bad
  | _ => .bad
/-- One operation. -/
noncomputable def step (τ : Tys) (C : Ctx) (o : Oper) : St → RS
  | ⟨fr, stk, bx, rw, dep⟩ =>
  match o.op with
  | .move x => (RV.ok (getT τ ⟨fr, stk, bx, rw, dep⟩ o.type x)).to o.dst ⟨fr, stk, bx, rw, dep⟩
  | .assign x => (RV.ok (getT τ ⟨fr, stk, bx, rw, dep⟩ o.type x)).to o.dst ⟨fr, stk, bx, rw, dep⟩
  | .pick c a b => (St.get ⟨fr, stk, bx, rw, dep⟩ c).force fun c => (St.get ⟨fr, stk, bx, rw, dep⟩ a).force fun a => (St.get ⟨fr, stk, bx, rw, dep⟩ b).force fun b =>
    (evPick c a b).to o.dst ⟨fr, stk, bx, rw, dep⟩
  | .alloc T => stepAlloc τ T o.dst ⟨fr, stk, bx, rw, dep⟩
  | .box T x => stepBox τ T x o.dst ⟨fr, stk, bx, rw, dep⟩
  | .build T ps => (evBuild τ ⟨fr, stk, bx, rw, dep⟩ T ps).to o.dst ⟨fr, stk, bx, rw, dep⟩
  | .buildSlice T n ps => stepLit τ T n ps o.dst ⟨fr, stk, bx, rw, dep⟩
  | .load T x => (St.get ⟨fr, stk, bx, rw, dep⟩ x).force fun x => (evLoad τ ⟨fr, stk, bx, rw, dep⟩ T x).to o.dst ⟨fr, stk, bx, rw, dep⟩
  | .store T x v => match o.dst with
    | none => stepStore τ T x v ⟨fr, stk, bx, rw, dep⟩
    | some _ => .bad
  | .nilCheck x => (St.get ⟨fr, stk, bx, rw, dep⟩ x).force fun x => (evCheck ⟨fr, stk, bx, rw, dep⟩ x).to o.dst ⟨fr, stk, bx, rw, dep⟩
  | .binOp op T x y _ => (St.get ⟨fr, stk, bx, rw, dep⟩ x).force fun x => (St.get ⟨fr, stk, bx, rw, dep⟩ y).force fun y => (evBin τ T op x y).to o.dst ⟨fr, stk, bx, rw, dep⟩
  | .unOp op _ x => (St.get ⟨fr, stk, bx, rw, dep⟩ x).force fun x => (evUn op x).to o.dst ⟨fr, stk, bx, rw, dep⟩
  | .convert a b x => match τ.td b with
    | .slice _ => stepBytes τ a b x o.dst ⟨fr, stk, bx, rw, dep⟩
    | _ => (St.get ⟨fr, stk, bx, rw, dep⟩ x).force fun x => (evConv τ ⟨fr, stk, bx, rw, dep⟩ a b x).to o.dst ⟨fr, stk, bx, rw, dep⟩
  | .makeFunc fn a c => (evFunc fn (getN τ ⟨fr, stk, bx, rw, dep⟩ a.toList []) (getN τ ⟨fr, stk, bx, rw, dep⟩ c.toList [])).to o.dst ⟨fr, stk, bx, rw, dep⟩
  | .makeSlice T n c => match n, c with
    | .tmp n', .tmp c' => match Nat.beq n' c' with
      | true => stepMake τ T (.tmp n') o.dst ⟨fr, stk, bx, rw, dep⟩
      | false => .bad
    | _, _ => .bad
  | .slice T x lo hi mx => stepSlice τ T x lo hi mx o.dst ⟨fr, stk, bx, rw, dep⟩
  | .fieldAddr S x j => (St.get ⟨fr, stk, bx, rw, dep⟩ x).force fun x => (evField τ ⟨fr, stk, bx, rw, dep⟩ S j x).to o.dst ⟨fr, stk, bx, rw, dep⟩
  | .field S x j => (St.get ⟨fr, stk, bx, rw, dep⟩ x).force fun x => (evPart τ S j x).to o.dst ⟨fr, stk, bx, rw, dep⟩
  | .indexAddr T x i => (St.get ⟨fr, stk, bx, rw, dep⟩ x).force fun x => (St.get ⟨fr, stk, bx, rw, dep⟩ i).force fun i => (evIndexAddr τ ⟨fr, stk, bx, rw, dep⟩ T x i).to o.dst ⟨fr, stk, bx, rw, dep⟩
  | .index T x i => (St.get ⟨fr, stk, bx, rw, dep⟩ x).force fun x => (St.get ⟨fr, stk, bx, rw, dep⟩ i).force fun i => (evIndex τ T x i).to o.dst ⟨fr, stk, bx, rw, dep⟩
  | .extract x j => (St.get ⟨fr, stk, bx, rw, dep⟩ x).force fun x => (evExtract x j).to o.dst ⟨fr, stk, bx, rw, dep⟩
  | .call c => stepCall τ C c o.dst ⟨fr, stk, bx, rw, dep⟩
  | _ => .bad
end Go.Proofs.Ytmgccphapkmmeaa
