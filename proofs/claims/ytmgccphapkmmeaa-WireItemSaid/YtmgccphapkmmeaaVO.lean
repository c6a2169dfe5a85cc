/- A symbolic executor for loaded Go code: a region whose operations come in any order that its edges allow. Definitions alone. -/
import Derived.Test.YtmgccphapkmmeaaVU
namespace Go.Proofs.Ytmgccphapkmmeaa
open Go.RowKit

/-- A thing to be shown. (Evaluation halts at it.) -/
@[irreducible] def Ob (p : Prop) : Prop := p
theorem Ob.out {p : Prop} (h : Ob p) : p := by unfold Ob at h; exact h
theorem Ob.mk {p : Prop} (h : p) : Ob p := by unfold Ob; exact h
/-- A state to its head. -/
def forceSt (s : St) (K : St → Prop) : Prop := match s with
  | ⟨fr, stk, bx, rw, dep⟩ => K ⟨fr, stk, bx, rw, dep⟩
theorem forceSt_eq (s : St) (K : St → Prop) : forceSt s K = K s := by cases s; rfl
def RS.wp (r : RS) (K : St → Prop) : Prop := match r with
  | .ok s => forceSt s K
  | .ob p s => Ob p ∧ (p → forceSt s K)
  | .bad => False
/-- One operation: a call may be told by what it does to the state. -/
noncomputable def stepW (τ : Tys) (C : Ctx) (o : Oper) (s : St) (K : St → Prop) : Prop := match o.op with
  | .call c => match c.callee with
    | .value f => (s.get f).force fun f => match f with
      | .clo g a cs => match C.tr g with
        | some T => forceL (a ++ getN τ s c.args.toList c.argTypes.toList ++ cs) fun args => T args s fun v s' => v.force fun v => forceSt (putv o.dst v s') K
        | none => (step τ C o s).wp K
      | _ => (step τ C o s).wp K
    | _ => (step τ C o s).wp K
  | _ => (step τ C o s).wp K
def gslot (ops : List Oper) (j : Nat) : Option Tmp := match nth ops j with
  | some o => o.dst
  | none => none
def setLit (t : Nat) (b : Bool) : St → St
  | ⟨fr, stk, bx, rw, dep⟩ => ⟨(t, .lit b) :: fr, stk, bx, rw, dep⟩
def sameB : Bool → Bool → Bool
  | true, true => true
  | false, false => true
  | _, _ => false
def skipO (d : Option Tmp) : St → St
  | ⟨fr, stk, bx, rw, dep⟩ => match d with
    | some d => ⟨(d, .tup []) :: fr, stk, bx, rw, dep⟩
    | none => ⟨fr, stk, bx, rw, dep⟩
/-- What an operation that is passed over again leaves. -/
def skipV : SV → SV
  | .tup [] => .tup []
  | _ => .junk
/-- By a guard: run, or passed over. -/
def guardO (all : List Oper) (o : Oper) (s : St) (yes no : St → Prop) : Prop := match o.guard with
  | none => yes s
  | some (j, want) => match gslot all j with
    | none => False
    | some t => match lkv s.fr t with
      | .lit b => match sameB b want with
        | true => yes s
        | false => no s
      | .bool b => match want with
        | true => (b = true → yes (setLit t true s)) ∧ (b = false → no (setLit t false s))
        | false => (b = false → yes (setLit t false s)) ∧ (b = true → no (setLit t true s))
      | .tup _ => no s
      | _ => False

/-! ### What one value says of another -/
def subV : SV → SV → Prop
  | .junk, _ => True
  | .bool c, .lit b => b = c
  | .bool c, .bool b => b = c
  | .lit c, .lit b => b = c
  | .int k' n', .int k n => k = k' ∧ n = n'
  | .str c, .str b => b = c
  | .row .any r', .row _ r => r = r'
  | .row .new r', .row .new r => r = r'
  | .row .old r', .row .old r => r = r'
  | .row _ r', .nilS r => r = r'
  | x, y => x = y

/-! ### Sets of places, as numbers -/
def inM (j m : Nat) : Bool := Nat.beq (Nat.land (Nat.shiftRight m j) 1) 1
def subM (a b : Nat) : Bool := Nat.beq (Nat.land a b) a
def addM (j m : Nat) : Nat := Nat.lor m (Nat.shiftLeft 1 j)
def forceN {α : Type} (n : Nat) (K : Nat → α) : α := match n with
  | 0 => K 0
  | m + 1 => K (m + 1)
theorem forceN_eq {α : Type} (n : Nat) (K : Nat → α) : forceN n K = K n := by cases n <;> rfl

/-! ### Operations that read alone -/
def isR (o : Oper) : Bool := match o.dst with
  | none => false
  | some _ => match o.op with
    | .move _ => true
    | .assign _ => true
    | .pick _ _ _ => true
    | .load _ _ => true
    | .nilCheck _ => true
    | .binOp _ _ _ _ _ => true
    | .unOp _ _ _ => true
    | .convert _ _ _ => true
    | .makeFunc _ _ _ => true
    | .fieldAddr _ _ _ => true
    | .field _ _ _ => true
    | .indexAddr _ _ _ => true
    | .index _ _ _ => true
    | .extract _ _ => true
    | .build _ _ => true
    | .call c => match c.callee with
      | .builtin .len => true
      | .builtin .min => true
      | .builtin .max => true
      | _ => false
    | _ => false
noncomputable def evR (τ : Tys) (s : St) (o : Oper) : RV := match o.op with
  | .move x => .ok (getT τ s o.type x)
  | .assign x => .ok (getT τ s o.type x)
  | .pick c a b => (s.get c).force fun c => (s.get a).force fun a => (s.get b).force fun b => evPick c a b
  | .load T x => (s.get x).force fun x => evLoad τ s T x
  | .nilCheck x => (s.get x).force fun x => evCheck s x
  | .binOp op T x y _ => (s.get x).force fun x => (s.get y).force fun y => evBin τ T op x y
  | .unOp op _ x => (s.get x).force fun x => evUn op x
  | .convert a b x => (s.get x).force fun x => evConv τ s a b x
  | .makeFunc fn a c => evFunc fn (getN τ s a.toList []) (getN τ s c.toList [])
  | .fieldAddr S x j => (s.get x).force fun x => evField τ s S j x
  | .field S x j => (s.get x).force fun x => evPart τ S j x
  | .indexAddr T x i => (s.get x).force fun x => (s.get i).force fun i => evIndexAddr τ s T x i
  | .index T x i => (s.get x).force fun x => (s.get i).force fun i => evIndex τ T x i
  | .extract x j => (s.get x).force fun x => evExtract x j
  | .build T ps => evBuild τ s T ps
  | .call c => match c.callee with
    | .builtin .len => match c.args.toList, c.argTypes.toList with
      | [x], [T] => (s.get x).force fun x => match lenOf s.rows x, τ.td T, x with
        | some n, .str, .str _ => .ok (.int .i64 n)
        | some n, .slice _, .row _ _ => .ok (.int .i64 n)
        | some n, .slice _, .own _ => .ok (.int .i64 n)
        | some n, .slice _, .nilS _ => .ok (.int .i64 n)
        | _, _, _ => .bad
      | _, _ => .bad
    | .builtin .min => match c.args.toList with
      | [x, y] => (s.get x).force fun x => (s.get y).force fun y => evMin .min x y
      | _ => .bad
    | .builtin .max => match c.args.toList with
      | [x, y] => (s.get x).force fun x => (s.get y).force fun y => evMin .max x y
      | _ => .bad
    | _ => .bad
  | _ => .bad
def RV.wp (r : RV) (K : SV → Prop) : Prop := match r with
  | .ok v => v.force K
  | .ob q v => Ob q ∧ (q → v.force K)
  | .bad => False
/-- A value that may have been found before now: then what is told now holds of the one found then. -/
def relV (old : Option SV) (v : SV) (K : SV → Prop) : Prop := match old with
  | none => K v
  | some x => match v, x with
    | .bool b, .lit c => Ob (b = c) ∧ K (.lit c)
    | v, x => subV v x ∧ K v
def putS (d : Tmp) (v : SV) : St → St
  | ⟨fr, stk, bx, rw, dep⟩ => ⟨(d, v) :: fr, stk, bx, rw, dep⟩

/-! ### The ghost's frame: all that reads alone has run -/
/-- (Their places and what they wait for: tab.) p: the others that have run; avO: what was at hand before; su: what has run for sure; old: the frame before. -/
noncomputable def fill (τ : Tys) (all : List Oper) (p avO su : Nat) (old : List (Nat × SV)) : List Oper → List (Nat × Nat) → Nat → St → (Nat → St → Prop) → Prop
  | o :: os, (j, b) :: tab, av, s, K => match isR o, o.dst with
    | true, some d => match subM b av with
      | true => match inM j avO, inM j su with
        | true, true => (lkv old d).force fun v => forceN (addM j av) fun av => forceSt (putS d v s) fun s => fill τ all p avO su old os tab av s K
        | true, false => forceN (addM j av) fun av => guardO all o s (fun s => (evR τ s o).wp fun v => (lkv old d).force fun x => relV (some x) v fun v => forceSt (putS d v s) fun s => fill τ all p avO su old os tab av s K)
          fun s => (skipV (lkv old d)).force fun v => forceSt (putS d v s) fun s => fill τ all p avO su old os tab av s K
        | false, _ => forceN (addM j av) fun av => guardO all o s (fun s => (evR τ s o).wp fun v => forceSt (putS d v s) fun s => fill τ all p avO su old os tab av s K)
          fun s => forceSt (putS d (.tup []) s) fun s => fill τ all p avO su old os tab av s K
      | false => fill τ all p avO su old os tab av s K
    | true, none => False
    | false, d => match inM j p with
      | true => forceN (addM j av) fun av => match d with
        | some d => (lkv old d).force fun v => forceSt (putS d v s) fun s => fill τ all p avO su old os tab av s K
        | none => fill τ all p avO su old os tab av s K
      | false => fill τ all p avO su old os tab av s K
  | [], [], av, s, K => K av s
  | _, _, _, _, _ => False
def sureM : List (Nat × Nat) → Nat → Nat
  | [], m => m
  | (j, b) :: l, m => match inM j m with
    | true => forceN (Nat.lor m b) fun m => sureM l m
    | false => sureM l m
/-- Each of the others that may come next. -/
def candO (p av : Nat) (F : Nat → Oper → Prop) : List Oper → List (Nat × Nat) → Prop
  | o :: os, (j, b) :: tab => match isR o, inM j p, subM b av with
    | false, false, true => F j o ∧ candO p av F os tab
    | _, _, _ => candO p av F os tab
  | _, _ => True
def allW (p : Nat) : List Oper → List (Nat × Nat) → Bool
  | o :: os, (j, _) :: tab => match isR o, inM j p with
    | false, false => false
    | _, _ => allW p os tab
  | _, _ => true
/-- Without the second frame. -/
def pop1 : St → St
  | ⟨fr, _ :: stk, bx, rw, dep⟩ => ⟨fr, stk, bx, rw, dep⟩
  | s => s
noncomputable def refill (τ : Tys) (all : List Oper) (tab : List (Nat × Nat)) (p avO su : Nat) (K : Nat → St → Prop) : St → Prop
  | ⟨old, fr0 :: stk, bx, rw, dep⟩ => fill τ all p avO su old all tab 0 ⟨fr0, old :: fr0 :: stk, bx, rw, dep⟩ fun av s => K av (pop1 s)
  | _ => False
noncomputable def wpNode (τ : Tys) (C : Ctx) (all : List Oper) (tab : List (Nat × Nat)) : Nat → Nat → Nat → St → (St → Prop) → Prop
  | 0, _, _, _, _ => False
  | f + 1, p, av, s, K => match allW p all tab with
    | true => K (pop1 s)
    | false => candO p av (fun j o => forceN (addM j p) fun p' => forceN (sureM tab.reverse p') fun su =>
        guardO all o s (fun s => stepW τ C o s fun s => refill τ all tab p' av su (fun av s => wpNode τ C all tab f p' av s K) s)
          fun s => refill τ all tab p' av su (fun av s => wpNode τ C all tab f p' av s K) (skipO o.dst s)) all tab
noncomputable def wpDraw (τ : Tys) (C : Ctx) (all : List Oper) (tab : List (Nat × Nat)) (K : St → Prop) : St → Prop
  | ⟨fr, stk, bx, rw, dep⟩ => refill τ all tab 0 0 0 (fun av s => wpNode τ C all tab (all.length + 1) 0 av s K) ⟨[], fr :: stk, bx, rw, dep⟩

/-! ### What is asked of a region, by computation -/
def bindsB (e : Edge) : Bool := match e.ground with
  | .textOnly _ => false
  | .gcOnly _ => false
  | _ => true
def edgeM : List Edge → Nat → Nat
  | [], m => m
  | e :: l, m => match bindsB e with
    | true => edgeM l (addM e.on m)
    | false => edgeM l m
def tmpsOf : List Operand → List Nat
  | [] => []
  | .tmp t :: l => t :: tmpsOf l
  | _ :: l => tmpsOf l
def looks (all : List Oper) (o : Oper) : List Nat := match o.guard with
  | some (g, _) => match gslot all g with
    | some t => t :: tmpsOf o.op.operands.toList
    | none => tmpsOf o.op.operands.toList
  | none => tmpsOf o.op.operands.toList
/-- Each edge leads back. -/
def tabOk : List Oper → List (Nat × Nat) → Nat → Bool
  | [], [], _ => true
  | o :: os, (j, b) :: tab, n => Nat.beq j n && Nat.beq b (edgeM o.after.toList 0) && (o.after.toList.all fun e => Nat.blt e.on n || !bindsB e) && tabOk os tab (n + 1)
  | _, _, _ => false
/-- A place that an operation reads and another one writes: the one waits for the other. -/
def pairOk (all : List Oper) (j b : Nat) (o : Oper) (i c : Nat) (q : Oper) : Bool := match q.dst with
  | none => true
  | some t => match Nat.beq i j with
    | true => true
    | false => !(match o.dst with
        | some d => Nat.beq d t
        | none => false) && (!memT t (looks all o) || (inM i b || inM j c))
where memT (t : Nat) : List Nat → Bool
  | [] => false
  | x :: l => Nat.beq x t || memT t l
def pairsOk (all : List Oper) (tab : List (Nat × Nat)) (j b : Nat) (o : Oper) : List Oper → List (Nat × Nat) → Bool
  | q :: qs, (i, c) :: t => pairOk all j b o i c q && pairsOk all tab j b o qs t
  | _, _ => true
def allPairs (all : List Oper) (tab : List (Nat × Nat)) : List Oper → List (Nat × Nat) → Bool
  | o :: os, (j, b) :: t => pairsOk all tab j b o all tab && allPairs all tab os t
  | _, _ => true
def noSel : List Oper → Bool
  | [] => true
  | o :: l => match o.op with
    | .select _ _ => false
    | _ => noSel l
def drawOk (all : List Oper) (tab : List (Nat × Nat)) : Bool := tabOk all tab 0 && allPairs all tab all tab && noSel all
end Go.Proofs.Ytmgccphapkmmeaa
