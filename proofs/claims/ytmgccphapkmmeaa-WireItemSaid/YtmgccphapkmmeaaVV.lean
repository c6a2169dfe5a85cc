/- A symbolic executor for loaded Go code: what a body has to meet. Definitions alone. -/
import Derived.Test.YtmgccphapkmmeaaVO
namespace Go.Proofs.Ytmgccphapkmmeaa
open Go.RowKit

/-! ### 1. One operation, a region -/
inductive Ex where
  | normal
  | exit (id : Nat)
  | ret
abbrev KC := Ex → St → Prop
noncomputable def wpOpsL (τ : Tys) (C : Ctx) (all : List Oper) : List Oper → St → (St → Prop) → Prop
  | [], s, K => K s
  | o :: os, s, K => guardO all o s (fun s => stepW τ C o s fun s => wpOpsL τ C all os s K) fun s => wpOpsL τ C all os (skipO o.dst s) K

/-! ### 2. What one state says of another -/
def subL : List SV → List SV → Prop
  | [], [] => True
  | x :: l, y :: l' => subV x y ∧ subL l l'
  | _, _ => False
def subFr (f : List (Nat × SV)) : List (Nat × SV) → Prop
  | [] => True
  | (t, v) :: l => subV v (lkv f t) ∧ subFr f l
def subBx (b : List (Nat × (TypeId × List SV))) : List (Nat × (TypeId × List SV)) → Prop
  | [] => True
  | (k, (T, cs)) :: l => (match lk b k with
    | some (T', cs') => T' = T ∧ subL cs cs'
    | none => False) ∧ subBx b l
def subE : Ent → Ent → Prop
  | .own r', .own r => r = r'
  | x, y => x = y
def subRw (R : List (Nat × Ent)) : List (Nat × Ent) → Prop
  | [] => True
  | (k, e) :: l => (match lk R k with
    | some e' => subE e e'
    | none => False) ∧ subRw R l
def subStk : List (List (Nat × SV)) → List (List (Nat × SV)) → Prop
  | [], [] => True
  | f :: l, f' :: l' => f = f' ∧ subStk l l'
  | _, _ => False
/-- The first state says no more than the second. -/
def St.sub : St → St → Prop
  | ⟨fr, stk, bx, rw, dep⟩, ⟨fr', stk', bx', rw', dep'⟩ => match Nat.beq dep dep' with
    | true => subStk stk stk' ∧ subFr fr' fr ∧ subBx bx' bx ∧ subRw rw' rw
    | false => False
/-- Without the slots, boxes and rows of those numbers; each slot once. -/
def memN (n : Nat) : List Nat → Bool
  | [] => false
  | k :: l => match Nat.beq n k with
    | true => true
    | false => memN n l
def cutF (W : List Nat) : List (Nat × SV) → List (Nat × SV)
  | [] => []
  | (t, v) :: l => match memN t W with
    | true => cutF W l
    | false => (t, v) :: cutF (t :: W) l
def cutK {α : Type} (W : List Nat) : List (Nat × α) → List (Nat × α)
  | [] => []
  | (k, v) :: l => match memN k W with
    | true => cutK W l
    | false => (k, v) :: cutK (k :: W) l
/-- An invariant: told by something; what the state then is, told from that at the loop's entry; how many rounds at the most. -/
structure Inv where
  σ : Type
  W : List Nat
  X : List Nat
  ok : σ → Prop
  st : σ → St → St
  mu : σ → Nat
def lkI : List (Nat × Inv) → Nat → Option Inv
  | [], _ => none
  | (k, v) :: l, t => match Nat.beq k t with
    | true => some v
    | false => lkI l t
def entry (W X : List Nat) (dep : Nat) : St → St
  | ⟨fr, stk, bx, rw, d⟩ => ⟨cutF W fr, stk, cutK (W.map (· + dep) ++ X) bx, cutK (W.map (· + dep) ++ X) rw, d⟩
/-- A loop's name: its first region's number. -/
def Code.first : Code → Nat
  | .region id _ _ => id
  | .seq a _ => Code.first a
  | .cond _ a _ => Code.first a
  | .block _ b => Code.first b
  | .loop b => Code.first b
  | .scope b => Code.first b
  | _ => 0

/-! ### 3. Code -/
/-- The tables of the regions that are drawn, by the regions' numbers. -/
abbrev Draws := List (Nat × List (Nat × Nat))
noncomputable def wpC (τ : Tys) (C : Ctx) (D : Draws) (L : List (Nat × Inv)) : Code → St → KC → Prop
  | .skip, s, K => K .normal s
  | .region id ops true, s, K => match lk D id with
    | some tab => wpDraw τ C ops.toList tab (K .normal) s
    | none => False
  | .region _ ops false, s, K => wpOpsL τ C ops.toList ops.toList s (K .normal)
  | .seq a b, s, K => wpC τ C D L a s fun e s => match e with
    | .normal => wpC τ C D L b s K
    | e => K e s
  | .cond c a b, s, K => match s.get c with
    | .lit true => wpC τ C D L a s K
    | .lit false => wpC τ C D L b s K
    | .bool t => match c with
      | .tmp n => (t = true → wpC τ C D L a (setLit n true s) K) ∧ (t = false → wpC τ C D L b (setLit n false s) K)
      | _ => (t = true → wpC τ C D L a s K) ∧ (t = false → wpC τ C D L b s K)
    | _ => False
  | .block id b, s, K => wpC τ C D L b s fun e s => match e with
    | .exit i => match Nat.beq i id with
      | true => K .normal s
      | false => K (.exit i) s
    | e => K e s
  | .loop b, s, K => match lkI L (Code.first b) with
    | some ⟨σ, W, X, ok, st, mu⟩ => (∃ g : σ, ok g ∧ St.sub (st g (entry W X s.dep s)) s) ∧ ∀ g : σ, ok g → wpC τ C D L b (st g (entry W X s.dep s)) fun e s' => match e with
      | .normal => ∃ g' : σ, ok g' ∧ mu g' < mu g ∧ St.sub (st g' (entry W X s.dep s)) s'
      | e => K e s'
    | none => False
  | .exit id, s, K => K (.exit id) s
  | .ret, s, K => K .ret s
  | _, _, _ => False

/-! ### 4. A function -/
def SV.old0 : SV → SV
  | .row .any r => .row .old r
  | .pt .any cs => .pt .old cs
  | v => v
def oldL : List SV → List SV
  | [] => []
  | v :: l => v.old0 :: oldL l
def SV.old : SV → SV
  | .agg cs => .agg (oldL cs)
  | v => v.old0
def enterF : List SV → Nat → List (Nat × SV)
  | [], _ => []
  | v :: l, n => (n, v.old) :: enterF l (n + 1)
def startSt (args : List SV) : St := ⟨enterF args 0, [], [], [], 0⟩
/-- A cell of a result is what the contract tells. -/
def matchV (R : List (Nat × Ent)) (rows : List Rw) : SV → SV → Prop
  | .int k n, .int k' n' => k = k' ∧ n = n'
  | .bool b, .bool c => b = c
  | .lit b, .bool c => b = c
  | .str b, .str c => b = c
  | .own k, .own i => match lk R k, nth rows i with
    | some (.own r), some r' => r = r'
    | _, _ => False
  | .nilS r, .own i => match nth rows i with
    | some r' => r = r'
    | none => False
  | .row .new r, .row .new r' => r = r'
  | .nilS r, .row .new r' => r = r'
  | .own k, .row .new r' => match lk R k with
    | some (.shared .new r) => r = r'
    | _ => False
  | _, _ => False
def matchL (p : SV → SV → Prop) : List SV → List SV → Prop
  | [], [] => True
  | x :: l, y :: l' => p x y ∧ matchL p l l'
  | _, _ => False
def matchA (R : List (Nat × Ent)) (rows : List Rw) : SV → SV → Prop
  | .agg cs, .agg cs' => matchL (matchV R rows) cs cs'
  | x, y => matchV R rows x y
def matchT (R : List (Nat × Ent)) (rows : List Rw) : SV → SV → Prop
  | .tup cs, .tup cs' => matchL (matchA R rows) cs cs'
  | x, y => matchA R rows x y
/-- Which own row is told for which: (of the contract, of the state). -/
def pairV : SV → SV → List (Nat × Option Nat)
  | .own k, .own i => [(i, some k)]
  | .nilS _, .own i => [(i, none)]
  | _, _ => []
def pairL (p : SV → SV → List (Nat × Option Nat)) : List SV → List SV → List (Nat × Option Nat)
  | x :: l, y :: l' => p x y ++ pairL p l l'
  | _, _ => []
def pairA : SV → SV → List (Nat × Option Nat)
  | .agg cs, .agg cs' => pairL pairV cs cs'
  | x, y => pairV x y
def pairT : SV → SV → List (Nat × Option Nat)
  | .tup cs, .tup cs' => pairL pairA cs cs'
  | x, y => pairA x y
/-- Is k told for no other one than i? -/
def soleK (i k : Nat) : List (Nat × Option Nat) → Bool
  | [] => true
  | (j, some k') :: l => match Nat.beq j i, Nat.beq k k' with
    | true, true => soleK i k l
    | false, false => soleK i k l
    | _, _ => false
  | (j, none) :: l => match Nat.beq j i with
    | true => false
    | false => soleK i k l
def soleAll : List (Nat × Option Nat) → List (Nat × Option Nat) → Bool
  | _, [] => true
  | A, (i, some k) :: l => match soleK i k A with
    | true => soleAll A l
    | false => false
  | A, (_, none) :: l => soleAll A l
def coverAll (A : List (Nat × Option Nat)) : Nat → Bool
  | 0 => true
  | n + 1 => match lk A n with
    | some _ => coverAll A n
    | none => false
def resVals (τ : Tys) (s : St) : List ResultVar → List SV → (List SV → Prop) → Prop
  | [], acc, K => K acc.reverse
  | .tmp t :: l, acc, K => (lkv s.fr t).force fun v => resVals τ s l (v :: acc) K
  | .cell a T :: l, acc, K => match evLoad τ s T (lkv s.fr a) with
    | .ok v => v.force fun v => resVals τ s l (v :: acc) K
    | _ => False
def notTup : List SV → Bool
  | [] => true
  | .tup _ :: _ => false
  | _ :: l => notTup l
def oneOf : List SV → SV
  | [v] => v
  | vs => .tup vs
def retK (τ : Tys) (res : List ResultVar) (v : SV) (rows : List Rw) : KC := fun e s => match e with
  | .exit _ => False
  | _ => resVals τ s res [] fun vs => (oneOf vs).force fun x => match soleAll (pairT x v) (pairT x v), coverAll (pairT x v) rows.length with
    | true, true => matchT s.rows rows x v
    | _, _ => False
def Out.vc (r : Out) (p : SV → List Rw → Prop) : Prop := match r with
  | .ok v rows => p v rows
  | .ob q v rows => q → p v rows
  | .bad => True
/-- How long a row can be, and those that it leads to. -/
def Rw.deep : Rw → Prop
  | .ints l => l.length * 8 ≤ 140737488355328
  | .bytes l => l.length * 1 ≤ 140737488355328
  | .strs l => l.length * 16 ≤ 140737488355328
  | .peers l => l.length * 16 ≤ 140737488355328
  | .items l => l.length * 40 ≤ 140737488355328
  | .tolds l => l.length * 24 ≤ 140737488355328
  | .cuts l => l.length * 16 ≤ 140737488355328
  | .msgs l => l.length * 104 ≤ 140737488355328 ∧ ∀ m ∈ l, m.ids.length * 8 ≤ 140737488355328
  | .nodes l => l.length * 112 ≤ 140737488355328 ∧ ∀ n ∈ l, n.view.peers.length * 16 ≤ 140737488355328 ∧ n.view.passive.length * 8 ≤ 140737488355328 ∧ n.items.length * 40 ≤ 140737488355328 ∧ n.log.length * 24 ≤ 140737488355328
  | .acts l => l.length * 72 ≤ 140737488355328 ∧ ∀ m ∈ l, m.ids.length * 8 ≤ 140737488355328
def fits0 : SV → Prop
  | .row _ r => r.deep
  | _ => True
def fitsL : List SV → Prop
  | [] => True
  | x :: l => fits0 x ∧ fitsL l
def fitsV : SV → Prop
  | .pt _ cs => fitsL cs
  | .agg cs => fitsL cs
  | x => fits0 x
def argFits : List SV → Prop
  | [] => True
  | x :: l => fitsV x ∧ argFits l
/-- Does the frame hold every slot that is written? -/
def dstOk (n : Nat) : List Oper → Bool
  | [] => true
  | o :: l => match o.dst with
    | some d => match Nat.blt d n with
      | true => dstOk n l
      | false => false
    | none => dstOk n l
def codeOk (D : Draws) (n : Nat) : Code → Bool
  | .region _ ops false => dstOk n ops.toList
  | .region id ops true => dstOk n ops.toList && match lk D id with
    | some tab => drawOk ops.toList tab
    | none => true
  | .seq a b => match codeOk D n a with
    | true => codeOk D n b
    | false => false
  | .cond _ a b => match codeOk D n a with
    | true => codeOk D n b
    | false => false
  | .block _ b => codeOk D n b
  | .loop b => codeOk D n b
  | .scope b => codeOk D n b
  | _ => true
end Go.Proofs.Ytmgccphapkmmeaa
