/- A symbolic executor for loaded Go code: its values, its state, its steps. Definitions alone. -/
import Derived.WalkKit
import Derived.WalkSpells
import Derived.WalkLawsBesides
namespace Go.Proofs.Ytmgccphapkmmeaa
open Go.RowKit

/-! ### 1. The program's data -/
structure GVer where
  count : Int
  writer : Int
deriving DecidableEq
structure GItem where
  key : Int
  ver : GVer
  value : Int
  gone : Bool
deriving DecidableEq
structure GPeer where
  id : Int
  missed : Int
deriving DecidableEq
structure GTold where
  key : Int
  has : Bool
  value : Int
deriving DecidableEq
structure GCut where
  a : Int
  b : Int
deriving DecidableEq
structure GView where
  id : Int
  peers : List GPeer
  passive : List Int
deriving DecidableEq
structure GMsg where
  kind : Int
  src : Int
  dst : Int
  ids : List Int
  key : Int
  item : GItem
  has : Bool
deriving DecidableEq
structure GNode where
  up : Bool
  view : GView
  items : List GItem
  log : List GTold
deriving DecidableEq
structure GWorld where
  nodes : List GNode
  cuts : List GCut
  packets : List GMsg
deriving DecidableEq
structure GAct where
  kind : Int
  node : Int
  other : Int
  pick : Int
  ids : List Int
  key : Int
  value : Int
deriving DecidableEq
instance : Inhabited GVer := ⟨⟨0, 0⟩⟩
instance : Inhabited GItem := ⟨⟨0, ⟨0, 0⟩, 0, false⟩⟩
instance : Inhabited GPeer := ⟨⟨0, 0⟩⟩
instance : Inhabited GTold := ⟨⟨0, false, 0⟩⟩
instance : Inhabited GCut := ⟨⟨0, 0⟩⟩
instance : Inhabited GView := ⟨⟨0, [], []⟩⟩
instance : Inhabited GMsg := ⟨⟨0, 0, 0, [], 0, ⟨0, ⟨0, 0⟩, 0, false⟩, false⟩⟩
instance : Inhabited GNode := ⟨⟨false, ⟨0, [], []⟩, [], []⟩⟩
instance : Inhabited GWorld := ⟨⟨[], [], []⟩⟩
instance : Inhabited GAct := ⟨⟨0, 0, 0, 0, [], 0, 0⟩⟩

/-! ### 2. Rows: what a slice reads as -/
inductive Rw where
  | ints (xs : List Int)
  | bytes (xs : List Int)
  | strs (xs : List ByteArray)
  | peers (xs : List GPeer)
  | items (xs : List GItem)
  | tolds (xs : List GTold)
  | cuts (xs : List GCut)
  | msgs (xs : List GMsg)
  | nodes (xs : List GNode)
  | acts (xs : List GAct)
inductive Tag where
  | old | new | any

/-! ### 3. Symbolic values -/
inductive SV where
  | int (k : IntKind) (n : Int)
  | bool (b : Bool)
  | lit (b : Bool)
  | str (s : ByteArray)
  | row (t : Tag) (r : Rw)
  | nilS (r : Rw)
  | own (k : Nat)
  | box (k off : Nat)
  | pt (t : Tag) (cs : List SV)
  | oel (k : Nat) (i : Int) (off : Nat)
  | agg (cs : List SV)
  | tup (vs : List SV)
  | clo (f : FuncId) (first caps : List SV)
  | junk

def Rw.len : Rw → Nat
  | .ints xs => xs.length
  | .bytes xs => xs.length
  | .strs xs => xs.length
  | .peers xs => xs.length
  | .items xs => xs.length
  | .tolds xs => xs.length
  | .cuts xs => xs.length
  | .msgs xs => xs.length
  | .nodes xs => xs.length
  | .acts xs => xs.length
/-- A row's kind: a number. -/
def Rw.kd : Rw → Nat
  | .ints _ => 0
  | .bytes _ => 1
  | .strs _ => 2
  | .peers _ => 3
  | .items _ => 4
  | .tolds _ => 5
  | .cuts _ => 6
  | .msgs _ => 7
  | .nodes _ => 8
  | .acts _ => 9
def kdSz : Nat → Nat
  | 3 => 2
  | 4 => 5
  | 5 => 3
  | 6 => 2
  | 7 => 11
  | 8 => 6
  | 9 => 7
  | _ => 1
def kdBytes : Nat → Nat
  | 0 => 8
  | 1 => 1
  | 2 => 16
  | 3 => 16
  | 4 => 40
  | 5 => 24
  | 6 => 16
  | 7 => 104
  | 8 => 112
  | 9 => 72
  | _ => 1
def Rw.sz (r : Rw) : Nat := kdSz r.kd
def Rw.bts (r : Rw) : Nat := kdBytes r.kd
def mkEmpty : Nat → Rw
  | 1 => .bytes []
  | 2 => .strs []
  | 3 => .peers []
  | 4 => .items []
  | 5 => .tolds []
  | 6 => .cuts []
  | 7 => .msgs []
  | 8 => .nodes []
  | 9 => .acts []
  | _ => .ints []
/-- Do its elements lead to other rows? -/
def Rw.flat : Rw → Bool
  | .msgs _ => false
  | .nodes _ => false
  | .acts _ => false
  | _ => true

def GItem.cells (x : GItem) : List SV := [.int .i64 x.key, .int .i64 x.ver.count, .int .i64 x.ver.writer, .int .i64 x.value, .bool x.gone]
def GPeer.cells (x : GPeer) : List SV := [.int .i64 x.id, .int .i64 x.missed]
def GTold.cells (x : GTold) : List SV := [.int .i64 x.key, .bool x.has, .int .i64 x.value]
def GCut.cells (x : GCut) : List SV := [.int .i64 x.a, .int .i64 x.b]
def GView.cells (t : Tag) (x : GView) : List SV := [.int .i64 x.id, .row t (.peers x.peers), .row t (.ints x.passive)]
def GMsg.cells (t : Tag) (x : GMsg) : List SV :=
  [.int .i64 x.kind, .int .i64 x.src, .int .i64 x.dst, .row t (.ints x.ids), .int .i64 x.key,
   .int .i64 x.item.key, .int .i64 x.item.ver.count, .int .i64 x.item.ver.writer, .int .i64 x.item.value, .bool x.item.gone, .bool x.has]
def GNode.cells (t : Tag) (x : GNode) : List SV :=
  [.bool x.up, .int .i64 x.view.id, .row t (.peers x.view.peers), .row t (.ints x.view.passive), .row t (.items x.items), .row t (.tolds x.log)]
def GWorld.cells (t : Tag) (x : GWorld) : List SV := [.row t (.nodes x.nodes), .row t (.cuts x.cuts), .row t (.msgs x.packets)]
def GAct.cells (t : Tag) (x : GAct) : List SV :=
  [.int .i64 x.kind, .int .i64 x.node, .int .i64 x.other, .int .i64 x.pick, .row t (.ints x.ids), .int .i64 x.key, .int .i64 x.value]

/-- The cells of a row's element. -/
def Rw.cell (t : Tag) : Rw → Nat → List SV
  | .ints xs, i => [.int .i64 (xs.getD i 0)]
  | .bytes xs, i => [.int .u8 (xs.getD i 0)]
  | .strs xs, i => [.str (xs.getD i ByteArray.empty)]
  | .peers xs, i => (xs.getD i default).cells
  | .items xs, i => (xs.getD i default).cells
  | .tolds xs, i => (xs.getD i default).cells
  | .cuts xs, i => (xs.getD i default).cells
  | .msgs xs, i => (xs.getD i default).cells t
  | .nodes xs, i => (xs.getD i default).cells t
  | .acts xs, i => (xs.getD i default).cells t

/-! ### 4. Reading a value back out of cells -/
def SV.asBool : SV → Option Bool
  | .bool b => some b
  | .lit b => some b
  | _ => none
def SV.asInts : SV → Option (List Int)
  | .row _ (.ints xs) => some xs
  | .nilS (.ints xs) => some xs
  | _ => none
def SV.asPeers : SV → Option (List GPeer)
  | .row _ (.peers xs) => some xs
  | .nilS (.peers xs) => some xs
  | _ => none
def SV.asItems : SV → Option (List GItem)
  | .row _ (.items xs) => some xs
  | .nilS (.items xs) => some xs
  | _ => none
def SV.asTolds : SV → Option (List GTold)
  | .row _ (.tolds xs) => some xs
  | .nilS (.tolds xs) => some xs
  | _ => none
def SV.asCuts : SV → Option (List GCut)
  | .row _ (.cuts xs) => some xs
  | .nilS (.cuts xs) => some xs
  | _ => none
def SV.asMsgs : SV → Option (List GMsg)
  | .row _ (.msgs xs) => some xs
  | .nilS (.msgs xs) => some xs
  | _ => none
def SV.asNodes : SV → Option (List GNode)
  | .row _ (.nodes xs) => some xs
  | .nilS (.nodes xs) => some xs
  | _ => none
def decVer : List SV → Option GVer
  | [.int .i64 c, .int .i64 w] => some ⟨c, w⟩
  | _ => none
def decItem : List SV → Option GItem
  | [.int .i64 k, .int .i64 c, .int .i64 w, .int .i64 v, g] => match g.asBool with
    | some g => some ⟨k, ⟨c, w⟩, v, g⟩
    | none => none
  | _ => none
def decPeer : List SV → Option GPeer
  | [.int .i64 i, .int .i64 m] => some ⟨i, m⟩
  | _ => none
def decTold : List SV → Option GTold
  | [.int .i64 k, h, .int .i64 v] => match h.asBool with
    | some h => some ⟨k, h, v⟩
    | none => none
  | _ => none
def decCut : List SV → Option GCut
  | [.int .i64 a, .int .i64 b] => some ⟨a, b⟩
  | _ => none
def decView : List SV → Option GView
  | [.int .i64 i, ps, is] => match ps.asPeers, is.asInts with
    | some ps, some is => some ⟨i, ps, is⟩
    | _, _ => none
  | _ => none
def decMsg : List SV → Option GMsg
  | [.int .i64 kind, .int .i64 src, .int .i64 dst, ids, .int .i64 key, .int .i64 k, .int .i64 c, .int .i64 w, .int .i64 v, g, h] =>
    match ids.asInts, g.asBool, h.asBool with
    | some ids, some g, some h => some ⟨kind, src, dst, ids, key, ⟨k, ⟨c, w⟩, v, g⟩, h⟩
    | _, _, _ => none
  | _ => none
def decNode : List SV → Option GNode
  | [up, .int .i64 i, ps, is, its, log] => match up.asBool, ps.asPeers, is.asInts, its.asItems, log.asTolds with
    | some up, some ps, some is, some its, some log => some ⟨up, ⟨i, ps, is⟩, its, log⟩
    | _, _, _, _, _ => none
  | _ => none
def decWorld : List SV → Option GWorld
  | [ns, cs, ps] => match ns.asNodes, cs.asCuts, ps.asMsgs with
    | some ns, some cs, some ps => some ⟨ns, cs, ps⟩
    | _, _, _ => none
  | _ => none
def decAct : List SV → Option GAct
  | [.int .i64 kind, .int .i64 node, .int .i64 other, .int .i64 pick, ids, .int .i64 key, .int .i64 value] => match ids.asInts with
    | some ids => some ⟨kind, node, other, pick, ids, key, value⟩
    | none => none
  | _ => none
def decInt : List SV → Option Int
  | [.int .i64 n] => some n
  | _ => none
def decByte : List SV → Option Int
  | [.int .u8 n] => some n
  | _ => none
def decStr : List SV → Option ByteArray
  | [.str s] => some s
  | _ => none
def decAll {α : Type} (dec : List SV → Option α) : List (List SV) → Option (List α)
  | [] => some []
  | c :: cs => match dec c, decAll dec cs with
    | some x, some xs => some (x :: xs)
    | _, _ => none
/-- A row of that kind out of its elements' cells. -/
def mkRow (k : Nat) (es : List (List SV)) : Option Rw :=
  match k with
  | 0 => (decAll decInt es).map .ints
  | 1 => (decAll decByte es).map .bytes
  | 2 => (decAll decStr es).map .strs
  | 3 => (decAll decPeer es).map .peers
  | 4 => (decAll decItem es).map .items
  | 5 => (decAll decTold es).map .tolds
  | 6 => (decAll decCut es).map .cuts
  | 7 => (decAll decMsg es).map .msgs
  | 8 => (decAll decNode es).map .nodes
  | 9 => (decAll decAct es).map .acts
  | _ => none
/-- Another element at a place. -/
def Rw.setE : Rw → Nat → List SV → Option Rw
  | .ints xs, i, c => (decInt c).map fun x => .ints (xs.set i x)
  | .bytes xs, i, c => (decByte c).map fun x => .bytes (xs.set i x)
  | .strs xs, i, c => (decStr c).map fun x => .strs (xs.set i x)
  | .peers xs, i, c => (decPeer c).map fun x => .peers (xs.set i x)
  | .items xs, i, c => (decItem c).map fun x => .items (xs.set i x)
  | .tolds xs, i, c => (decTold c).map fun x => .tolds (xs.set i x)
  | .cuts xs, i, c => (decCut c).map fun x => .cuts (xs.set i x)
  | .msgs xs, i, c => (decMsg c).map fun x => .msgs (xs.set i x)
  | .nodes xs, i, c => (decNode c).map fun x => .nodes (xs.set i x)
  | .acts xs, i, c => (decAct c).map fun x => .acts (xs.set i x)
def Rw.app : Rw → Rw → Option Rw
  | .ints xs, .ints ys => some (.ints (xs ++ ys))
  | .bytes xs, .bytes ys => some (.bytes (xs ++ ys))
  | .strs xs, .strs ys => some (.strs (xs ++ ys))
  | .peers xs, .peers ys => some (.peers (xs ++ ys))
  | .items xs, .items ys => some (.items (xs ++ ys))
  | .tolds xs, .tolds ys => some (.tolds (xs ++ ys))
  | .cuts xs, .cuts ys => some (.cuts (xs ++ ys))
  | .msgs xs, .msgs ys => some (.msgs (xs ++ ys))
  | .nodes xs, .nodes ys => some (.nodes (xs ++ ys))
  | .acts xs, .acts ys => some (.acts (xs ++ ys))
  | _, _ => none
/-- A part of a row: from l on, up to h. -/
def Rw.sub (l h : Nat) : Rw → Rw
  | .ints xs => .ints ((xs.take h).drop l)
  | .bytes xs => .bytes ((xs.take h).drop l)
  | .strs xs => .strs ((xs.take h).drop l)
  | .peers xs => .peers ((xs.take h).drop l)
  | .items xs => .items ((xs.take h).drop l)
  | .tolds xs => .tolds ((xs.take h).drop l)
  | .cuts xs => .cuts ((xs.take h).drop l)
  | .msgs xs => .msgs ((xs.take h).drop l)
  | .nodes xs => .nodes ((xs.take h).drop l)
  | .acts xs => .acts ((xs.take h).drop l)
def Rw.zeros (k n : Nat) : Rw :=
  match k with
  | 1 => .bytes (List.replicate n 0)
  | 2 => .strs (List.replicate n ByteArray.empty)
  | 3 => .peers (List.replicate n default)
  | 4 => .items (List.replicate n default)
  | 5 => .tolds (List.replicate n default)
  | 6 => .cuts (List.replicate n default)
  | 7 => .msgs (List.replicate n default)
  | 8 => .nodes (List.replicate n default)
  | 9 => .acts (List.replicate n default)
  | _ => .ints (List.replicate n 0)

/-! ### 5. Types -/
inductive TD where
  | int (k : IntKind)
  | bool
  | str
  | slice (e : TypeId)
  | struct (fs : List (Nat × TypeId))
  | arr (n : Nat) (e : TypeId)
  | other
structure TI where
  td : TD
  sz : Nat
  bytes : Nat
  zero : List SV
/-- What is known of the program's types: of a type; which kind of row a slice of such elements is; the element type of a kind. -/
structure Tys where
  ti : TypeId → Option TI
  rk : TypeId → Option Nat
  et : Nat → TypeId
  sh : TypeId → Option (List Nat)
def Tys.td (τ : Tys) (T : TypeId) : TD := match τ.ti T with
  | some i => i.td
  | none => .other
def Tys.agg (τ : Tys) (T : TypeId) : Bool := match τ.td T with
  | .struct _ => true
  | .arr _ _ => true
  | _ => false
def Tys.sz (τ : Tys) (T : TypeId) : Nat := match τ.ti T with
  | some i => i.sz
  | none => 0
/-- The kind of row of a slice type. -/
def Tys.rowKind (τ : Tys) (T : TypeId) : Option Nat := match τ.td T with
  | .slice e => τ.rk e
  | _ => none

/-! ### 6. The state -/
/-- A row of one's own: all that its elements lead to is new; of its first elements alone; a row that is read alone. -/
inductive Ent where
  | own (r : Rw)
  | part (lo : Nat) (r : Rw)
  | shared (t : Tag) (r : Rw)
structure St where
  fr : List (Nat × SV)
  stk : List (List (Nat × SV))
  boxes : List (Nat × (TypeId × List SV))
  rows : List (Nat × Ent)
  dep : Nat
def lkv : List (Nat × SV) → Nat → SV
  | [], _ => .junk
  | (k, v) :: l, t => match Nat.beq k t with
    | true => v
    | false => lkv l t
def lk {α : Type} : List (Nat × α) → Nat → Option α
  | [], _ => none
  | (k, v) :: l, t => match Nat.beq k t with
    | true => some v
    | false => lk l t
def upd {α : Type} : List (Nat × α) → Nat → α → List (Nat × α)
  | [], k, v => [(k, v)]
  | (k', v') :: l, k, v => match Nat.beq k' k with
    | true => (k, v) :: l
    | false => (k', v') :: upd l k v
def nth {α : Type} : List α → Nat → Option α
  | [], _ => none
  | x :: _, 0 => some x
  | _ :: l, n + 1 => nth l n
/-- To its head. -/
def SV.force {α : Type} (v : SV) (K : SV → α) : α :=
  match v with
  | .int k n => K (.int k n)
  | .bool b => K (.bool b)
  | .lit b => K (.lit b)
  | .str s => K (.str s)
  | .row t r => K (.row t r)
  | .nilS r => K (.nilS r)
  | .own k => K (.own k)
  | .box k off => K (.box k off)
  | .pt t cs => K (.pt t cs)
  | .oel k i off => K (.oel k i off)
  | .agg cs => K (.agg cs)
  | .tup vs => K (.tup vs)
  | .clo f a c => K (.clo f a c)
  | .junk => K .junk
theorem SV.force_eq {α : Type} (v : SV) (K : SV → α) : v.force K = K v := by cases v <;> rfl
def forceL {α : Type} : List SV → (List SV → α) → α
  | [], K => K []
  | v :: l, K => v.force fun v' => forceL l fun l' => K (v' :: l')
theorem forceL_eq {α : Type} (l : List SV) (K : List SV → α) : forceL l K = K l := by
  induction l generalizing K with
  | nil => rfl
  | cons v l ih => simp only [forceL, SV.force_eq, ih]
def SV.cells : SV → List SV
  | .agg cs => cs
  | v => [v]
def SV.ofVal : Value → SV
  | .int k n => .int k n
  | .bool b => .lit b
  | .string s => .str s
  | _ => .junk
def St.get (s : St) : Operand → SV
  | .tmp t => lkv s.fr t
  | .const v => SV.ofVal v
  | .func f => .clo f [] []
  | .global _ => .junk
/-- An operand of that type: nil is told by its type. -/
def getT (τ : Tys) (s : St) (T : TypeId) : Operand → SV
  | .const (.slice none 0 0) => match τ.rowKind T with
    | some k => .nilS (mkEmpty k)
    | none => .junk
  | x => s.get x
def putv (d : Option Tmp) (v : SV) (s : St) : St :=
  match s, d with
  | ⟨fr, stk, b, r, p⟩, some d => ⟨(d, v) :: fr, stk, b, r, p⟩
  | ⟨fr, stk, b, r, p⟩, none => ⟨fr, stk, b, r, p⟩
inductive RS where
  | ok (s : St)
  | ob (p : Prop) (s : St)
  | bad
/-- What an operation comes to, ahead of its place in the frame. -/
inductive RV where
  | ok (v : SV)
  | ob (p : Prop) (v : SV)
  | bad
def RV.to (r : RV) (d : Option Tmp) (s : St) : RS :=
  match r with
  | .ok v => v.force fun v => .ok (putv d v s)
  | .ob p v => v.force fun v => .ob p (putv d v s)
  | .bad => .bad

/-! ### 7. Operations on values alone -/
def sameK : IntKind → IntKind → Bool
  | .i8, .i8 => true
  | .i16, .i16 => true
  | .i32, .i32 => true
  | .i64, .i64 => true
  | .u8, .u8 => true
  | .u16, .u16 => true
  | .u32, .u32 => true
  | .u64, .u64 => true
  | _, _ => false
/-- Two structs' cells, one by one: of a shape (0: a whole number, else a bool). -/
def eqCells : List Nat → List SV → List SV → Option Bool
  | [], [], [] => some true
  | 0 :: sh, .int .i64 a :: l, .int .i64 b :: l' => match sh, eqCells sh l l' with
    | [], some _ => some (decide (a = b))
    | _, some e => some (decide (a = b) && e)
    | _, none => none
  | (_ + 1) :: sh, x :: l, y :: l' => match sh, x.asBool, y.asBool, eqCells sh l l' with
    | [], some a, some b, some _ => some (a == b)
    | _, some a, some b, some e => some ((a == b) && e)
    | _, _, _, _ => none
  | _, _, _ => none
def evInt (op : BinOp) (k : IntKind) (a b : Int) : RV :=
  match op with
  | .add => .ok (.int k (k.wrap (a + b)))
  | .sub => .ok (.int k (k.wrap (a - b)))
  | .mul => .ok (.int k (k.wrap (a * b)))
  | .quo => .ob (b ≠ 0) (.int k (k.wrap (a.tdiv b)))
  | .rem => .ob (b ≠ 0) (.int k (a.tmod b))
  | .and => .ok (.int k (bits .and k a b))
  | .or => .ok (.int k (bits .or k a b))
  | .xor => .ok (.int k (bits .xor k a b))
  | .andNot => .ok (.int k (bits .andNot k a b))
  | .eql => .ok (.bool (decide (a = b)))
  | .neq => .ok (.bool (!decide (a = b)))
  | .lss => .ok (.bool (decide (a < b)))
  | .leq => .ok (.bool (decide (a ≤ b)))
  | .gtr => .ok (.bool (decide (b < a)))
  | .geq => .ok (.bool (decide (b ≤ a)))
  | _ => .bad
def evBin (τ : Tys) (T : TypeId) (op : BinOp) (x y : SV) : RV :=
  match x, y with
  | .int k a, .int k' b =>
    match op with
    | .shl => .ob (0 ≤ b ∧ b ≤ k.bits) (.int k (k.wrap (a * 2 ^ b.toNat)))
    | .shr => .ob (0 ≤ b ∧ b ≤ k.bits) (.int k (a / 2 ^ b.toNat))
    | op => match sameK k k' with
      | true => evInt op k a b
      | false => .bad
  | .str a, .str b =>
    match op with
    | .add => .ob (a.size + b.size ≤ 9223372036854775807) (.str (a ++ b))
    | .eql => .ok (.bool (a.toList == b.toList))
    | .neq => .ok (.bool (!(a.toList == b.toList)))
    | _ => .bad
  | .agg a, .agg b =>
    match τ.sh T with
    | some sh => match op, eqCells sh a b with
      | .eql, some e => .ok (.bool e)
      | .neq, some e => .ok (.bool (!e))
      | _, _ => .bad
    | none => .bad
  | x, y =>
    match τ.td T, op, x.asBool, y.asBool with
    | .bool, .eql, some a, some b => .ok (.bool (a == b))
    | .bool, .neq, some a, some b => .ok (.bool (!(a == b)))
    | _, _, _, _ => .bad
def evUn (op : UnOp) (x : SV) : RV :=
  match op, x with
  | .not, .bool b => .ok (.bool (!b))
  | .not, .lit true => .ok (.lit false)
  | .not, .lit false => .ok (.lit true)
  | .neg, .int k n => .ok (.int k (k.wrap (0 - n)))
  | _, _ => .bad
def evPick (c a b : SV) : RV :=
  match c with
  | .lit true => .ok a
  | .lit false => .ok b
  | .bool c => match a.asBool, b.asBool with
    | some a, some b => .ok (.bool (bif c then a else b))
    | _, _ => .bad
  | _ => .bad
theorem seal_ex {α : Type} (a : α) : ∃ b, b = a := ⟨a, rfl⟩
/-- (Sealed: neither Lean nor its kernel looks into it.) -/
noncomputable def byteAt (s : ByteArray) (i : Nat) : Int := Classical.choose (seal_ex (if h : i < s.size then ((s[i]'h).toNat : Int) else 0))
theorem byteAt_def (s : ByteArray) (i : Nat) : byteAt s i = if h : i < s.size then ((s[i]'h).toNat : Int) else 0 := Classical.choose_spec (seal_ex _)
/-- The cells off .. off + n of a list. -/
def cut {α : Type} (cs : List α) (off n : Nat) : List α := (cs.drop off).take n
/-- Part of some cells, as a value of that type. -/
def part' (τ : Tys) (T : TypeId) (cs : List SV) (off : Nat) : RV :=
  match τ.ti T with
  | none => .bad
  | some _ => match τ.agg T with
  | true => match Nat.ble (off + τ.sz T) cs.length with
    | true => forceL (cut cs off (τ.sz T)) fun l => .ok (.agg l)
    | false => .bad
  | false => match nth cs off with
    | some v => .ok v
    | none => .bad
def setRange {α : Type} : List α → Nat → List α → List α
  | cs, _, [] => cs
  | [], _, _ => []
  | _ :: cs, 0, v :: vs => v :: setRange cs 0 vs
  | c :: cs, n + 1, vs => c :: setRange cs n vs

/-! ### 8. Operations on the state -/
/-- Does a value name the own row k? (Three levels: what a frame holds.) -/
def own0 (k : Nat) : SV → Bool
  | .own j => Nat.beq j k
  | .oel j _ _ => Nat.beq j k
  | _ => false
def box0 (k : Nat) : SV → Bool
  | .box j _ => Nat.beq j k
  | _ => false
def anyL (p : SV → Bool) : List SV → Bool
  | [] => false
  | v :: l => match p v with
    | true => true
    | false => anyL p l
/-- p holds of a value, or of a part of it. -/
def deepf (p : SV → Bool) : SV → Bool
  | .agg cs => anyL p cs
  | v => p v
def deep1 (p : SV → Bool) : SV → Bool
  | .clo _ a c => match anyL (deepf p) a with
    | true => true
    | false => anyL p c
  | v => p v
def deep2 (p : SV → Bool) : SV → Bool
  | .agg cs => anyL (deep1 p) cs
  | v => deep1 p v
def deep3 (p : SV → Bool) : SV → Bool
  | .tup vs => anyL (deep2 p) vs
  | v => deep2 p v
def frHas (p : SV → Bool) : List (Nat × SV) → Bool
  | [] => false
  | (_, v) :: l => match deep3 p v with
    | true => true
    | false => frHas p l
def stkHas (p : SV → Bool) : List (List (Nat × SV)) → Bool
  | [] => false
  | f :: l => match frHas p f with
    | true => true
    | false => stkHas p l
def boxesHas (p : SV → Bool) : List (Nat × (TypeId × List SV)) → Bool
  | [] => false
  | (_, (_, cs)) :: l => match anyL (deep1 p) cs with
    | true => true
    | false => boxesHas p l
def St.has (p : SV → Bool) (s : St) : Bool := match frHas p s.fr with
  | true => true
  | false => match stkHas p s.stk with
    | true => true
    | false => boxesHas p s.boxes
/-- What named the own row k is forgotten. -/
def killV (k : Nat) (v : SV) : SV := match deep3 (own0 k) v with
  | true => .junk
  | false => v
def killF (k : Nat) : List (Nat × SV) → List (Nat × SV)
  | [] => []
  | (t, v) :: l => (t, killV k v) :: killF k l
def killS (k : Nat) : List (List (Nat × SV)) → List (List (Nat × SV))
  | [] => []
  | f :: l => killF k f :: killS k l
def killC (k : Nat) : List SV → List SV
  | [] => []
  | v :: l => killV k v :: killC k l
def killB (k : Nat) : List (Nat × (TypeId × List SV)) → List (Nat × (TypeId × List SV))
  | [] => []
  | (b, (T, cs)) :: l => (b, (T, killC k cs)) :: killB k l
/-- To their heads: the lists of a state. -/
def forceF {α : Type} : List (Nat × SV) → (List (Nat × SV) → α) → α
  | [], K => K []
  | (t, v) :: l, K => v.force fun v' => forceF l fun l' => K ((t, v') :: l')
theorem forceF_eq {α : Type} (l : List (Nat × SV)) (K : List (Nat × SV) → α) : forceF l K = K l := by
  induction l generalizing K with
  | nil => rfl
  | cons v l ih => obtain ⟨t, v⟩ := v; simp only [forceF, SV.force_eq, ih]
def forceS {α : Type} : List (List (Nat × SV)) → (List (List (Nat × SV)) → α) → α
  | [], K => K []
  | f :: l, K => forceF f fun f' => forceS l fun l' => K (f' :: l')
theorem forceS_eq {α : Type} (l : List (List (Nat × SV))) (K : List (List (Nat × SV)) → α) : forceS l K = K l := by
  induction l generalizing K with
  | nil => rfl
  | cons v l ih => simp only [forceS, forceF_eq, ih]
def forceB {α : Type} : List (Nat × (TypeId × List SV)) → (List (Nat × (TypeId × List SV)) → α) → α
  | [], K => K []
  | (b, (T, cs)) :: l, K => forceL cs fun cs' => forceB l fun l' => K ((b, (T, cs')) :: l')
theorem forceB_eq {α : Type} (l : List (Nat × (TypeId × List SV))) (K : List (Nat × (TypeId × List SV)) → α) : forceB l K = K l := by
  induction l generalizing K with
  | nil => rfl
  | cons v l ih => obtain ⟨b, T, cs⟩ := v; simp only [forceB, forceL_eq, ih]
/-- The row behind an entry, and its tag. -/
def Ent.row : Ent → Tag × Rw
  | .own r => (.new, r)
  | .part _ r => (match r.flat with
    | true => .new
    | false => .any, r)
  | .shared t r => (t, r)
/-- An own row, or a shared one, as a row that is read. -/
def res1 (R : List (Nat × Ent)) : SV → SV
  | .own k => match lk R k with
    | some e => match e.row with
      | (t, r) => .row t r
    | none => .junk
  | v => v
def resL (R : List (Nat × Ent)) : List SV → List SV
  | [] => []
  | v :: l => res1 R v :: resL R l
/-- An argument, as a contract sees it: tags and own rows are left out; a pointer is what it points to. -/
def SV.plain : SV → SV
  | .int k n => .int k n
  | .bool b => .bool b
  | .lit b => .bool b
  | .str s => .str s
  | .row _ r => .row .any r
  | .nilS r => .row .any r
  | _ => .junk
def plainL (R : List (Nat × Ent)) : List SV → List SV
  | [] => []
  | v :: l => (res1 R v).plain :: plainL R l
def noJunk : List SV → Bool
  | [] => true
  | .junk :: _ => false
  | _ :: l => noJunk l
def ptOf (cs : List SV) : SV := match noJunk cs with
  | true => .pt .any cs
  | false => .junk
def resP (s : St) : SV → SV
  | .pt _ cs => forceL (plainL s.rows cs) ptOf
  | .box k off => match lk s.boxes k with
    | some (_, cs) => forceL (plainL s.rows (cs.drop off)) ptOf
    | none => .junk
  | .oel k i off => match lk s.rows k with
    | some (.own r) => .pt .any ((r.cell .any i.toNat).drop off)
    | some (.part _ r) => .pt .any ((r.cell .any i.toNat).drop off)
    | _ => .junk
  | v => (res1 s.rows v).plain
def resF (s : St) : SV → SV
  | .agg cs => .agg (plainL s.rows cs)
  | v => resP s v
def mapP (f : SV → SV) : List SV → List SV
  | [] => []
  | v :: l => f v :: mapP f l
def resA (s : St) : SV → SV
  | .clo f a c => .clo f (mapP (resF s) a) (mapP (resP s) c)
  | v => resF s v
end Go.Proofs.Ytmgccphapkmmeaa
