/- A part of the proof of a law: VA, VB, VS, VC, VD. -/
import Derived.WalkKit
import Derived.WalkSpells
import Derived.WalkLawsBesides
set_option linter.all false
set_option linter.unusedVariables false
set_option linter.unusedSimpArgs false
set_option linter.unusedSectionVars false
/- A symbolic executor for loaded Go code: its values, its state, its steps. Definitions alone. -/
namespace Go.Proofs.YtjjpakdlkjaigaaGreat
open Go.RowKit
structure GVer where
 count : Int
 writer : Int
deriving DecidableEq
structure GItem where
 key : Int
 ver : GVer
 value : Int
 gone : Bool
deriving DecidableEq
structure GPeer where
 id : Int
 missed : Int
deriving DecidableEq
structure GTold where
 key : Int
 has : Bool
 value : Int
deriving DecidableEq
structure GCut where
 a : Int
 b : Int
deriving DecidableEq
structure GView where
 id : Int
 peers : List GPeer
 passive : List Int
deriving DecidableEq
structure GMsg where
 kind : Int
 src : Int
 dst : Int
 ids : List Int
 key : Int
 item : GItem
 has : Bool
deriving DecidableEq
structure GNode where
 up : Bool
 view : GView
 items : List GItem
 log : List GTold
deriving DecidableEq
structure GWorld where
 nodes : List GNode
 cuts : List GCut
 packets : List GMsg
deriving DecidableEq
structure GAct where
 kind : Int
 node : Int
 other : Int
 pick : Int
 ids : List Int
 key : Int
 value : Int
deriving DecidableEq
instance : Inhabited GVer := ⟨⟨0, 0⟩⟩
instance : Inhabited GItem := ⟨⟨0, ⟨0, 0⟩, 0, false⟩⟩
instance : Inhabited GPeer := ⟨⟨0, 0⟩⟩
instance : Inhabited GTold := ⟨⟨0, false, 0⟩⟩
instance : Inhabited GCut := ⟨⟨0, 0⟩⟩
instance : Inhabited GView := ⟨⟨0, [], []⟩⟩
instance : Inhabited GMsg := ⟨⟨0, 0, 0, [], 0, ⟨0, ⟨0, 0⟩, 0, false⟩, false⟩⟩
instance : Inhabited GNode := ⟨⟨false, ⟨0, [], []⟩, [], []⟩⟩
instance : Inhabited GWorld := ⟨⟨[], [], []⟩⟩
instance : Inhabited GAct := ⟨⟨0, 0, 0, 0, [], 0, 0⟩⟩
inductive Rw where
 | ints (xs : List Int)
 | bytes (xs : List Int)
 | strs (xs : List ByteArray)
 | peers (xs : List GPeer)
 | items (xs : List GItem)
 | tolds (xs : List GTold)
 | cuts (xs : List GCut)
 | msgs (xs : List GMsg)
 | nodes (xs : List GNode)
 | acts (xs : List GAct)
 | intss (xs : List (List Int))
 | bools (xs : List Bool)
inductive Tag where
 | old | new | any
inductive SV where
 | int (k : IntKind) (n : Int)
 | bool (b : Bool)
 | lit (b : Bool)
 | str (s : ByteArray)
 | row (t : Tag) (r : Rw)
 | nilS (r : Rw)
 | pre (t : Tag) (r : Rw) (n : Nat)
 | own (k : Nat)
 | box (k off : Nat)
 | pt (t : Tag) (cs : List SV)
 | oel (k : Nat) (i : Int) (off : Nat)
 | agg (cs : List SV)
 | tup (vs : List SV)
 | clo (f : FuncId) (first caps : List SV)
 | junk
def Rw.len : Rw → Nat
 | .ints xs => xs.length
 | .bytes xs => xs.length
 | .strs xs => xs.length
 | .peers xs => xs.length
 | .items xs => xs.length
 | .tolds xs => xs.length
 | .cuts xs => xs.length
 | .msgs xs => xs.length
 | .nodes xs => xs.length
 | .acts xs => xs.length
 | .intss xs => xs.length
 | .bools xs => xs.length
def Rw.kd : Rw → Nat
 | .ints _ => 0
 | .bytes _ => 1
 | .strs _ => 2
 | .peers _ => 3
 | .items _ => 4
 | .tolds _ => 5
 | .cuts _ => 6
 | .msgs _ => 7
 | .nodes _ => 8
 | .acts _ => 9
 | .intss _ => 10
 | .bools _ => 11
def kdSz : Nat → Nat
 | 3 => 2
 | 4 => 5
 | 5 => 3
 | 6 => 2
 | 7 => 11
 | 8 => 6
 | 9 => 7
 | _ => 1
def kdBytes : Nat → Nat
 | 0 => 8
 | 1 => 1
 | 2 => 16
 | 3 => 16
 | 4 => 40
 | 5 => 24
 | 6 => 16
 | 7 => 104
 | 8 => 112
 | 9 => 72
 | 10 => 24
 | _ => 1
def Rw.sz (r : Rw) : Nat := kdSz r.kd
def Rw.bts (r : Rw) : Nat := kdBytes r.kd
def mkEmpty : Nat → Rw
 | 1 => .bytes []
 | 2 => .strs []
 | 3 => .peers []
 | 4 => .items []
 | 5 => .tolds []
 | 6 => .cuts []
 | 7 => .msgs []
 | 8 => .nodes []
 | 9 => .acts []
 | 10 => .intss []
 | 11 => .bools []
 | _ => .ints []
def Rw.flat : Rw → Bool
 | .msgs _ => false
 | .nodes _ => false
 | .acts _ => false
 | .intss _ => false
 | _ => true
def GItem.cells (x : GItem) : List SV := [.int .i64 x.key, .int .i64 x.ver.count, .int .i64 x.ver.writer, .int .i64 x.value, .bool x.gone]
def GPeer.cells (x : GPeer) : List SV := [.int .i64 x.id, .int .i64 x.missed]
def GTold.cells (x : GTold) : List SV := [.int .i64 x.key, .bool x.has, .int .i64 x.value]
def GCut.cells (x : GCut) : List SV := [.int .i64 x.a, .int .i64 x.b]
def GView.cells (t : Tag) (x : GView) : List SV := [.int .i64 x.id, .row t (.peers x.peers), .row t (.ints x.passive)]
def GMsg.cells (t : Tag) (x : GMsg) : List SV :=
 [.int .i64 x.kind, .int .i64 x.src, .int .i64 x.dst, .row t (.ints x.ids), .int .i64 x.key,
  .int .i64 x.item.key, .int .i64 x.item.ver.count, .int .i64 x.item.ver.writer, .int .i64 x.item.value, .bool x.item.gone, .bool x.has]
def GNode.cells (t : Tag) (x : GNode) : List SV :=
 [.bool x.up, .int .i64 x.view.id, .row t (.peers x.view.peers), .row t (.ints x.view.passive), .row t (.items x.items), .row t (.tolds x.log)]
def GWorld.cells (t : Tag) (x : GWorld) : List SV := [.row t (.nodes x.nodes), .row t (.cuts x.cuts), .row t (.msgs x.packets)]
def GAct.cells (t : Tag) (x : GAct) : List SV :=
 [.int .i64 x.kind, .int .i64 x.node, .int .i64 x.other, .int .i64 x.pick, .row t (.ints x.ids), .int .i64 x.key, .int .i64 x.value]
def Rw.cell (t : Tag) : Rw → Nat → List SV
 | .ints xs, i => [.int .i64 (xs.getD i 0)]
 | .bytes xs, i => [.int .u8 (xs.getD i 0)]
 | .strs xs, i => [.str (xs.getD i ByteArray.empty)]
 | .peers xs, i => (xs.getD i default).cells
 | .items xs, i => (xs.getD i default).cells
 | .tolds xs, i => (xs.getD i default).cells
 | .cuts xs, i => (xs.getD i default).cells
 | .msgs xs, i => (xs.getD i default).cells t
 | .nodes xs, i => (xs.getD i default).cells t
 | .acts xs, i => (xs.getD i default).cells t
 | .intss xs, i => [.row t (.ints (xs.getD i []))]
 | .bools xs, i => [.bool (xs.getD i false)]
def SV.asBool : SV → Option Bool
 | .bool b => some b
 | .lit b => some b
 | _ => none
def SV.asInts : SV → Option (List Int)
 | .row _ (.ints xs) => some xs
 | .nilS (.ints xs) => some xs
 | _ => none
def SV.asPeers : SV → Option (List GPeer)
 | .row _ (.peers xs) => some xs
 | .nilS (.peers xs) => some xs
 | _ => none
def SV.asItems : SV → Option (List GItem)
 | .row _ (.items xs) => some xs
 | .nilS (.items xs) => some xs
 | _ => none
def SV.asTolds : SV → Option (List GTold)
 | .row _ (.tolds xs) => some xs
 | .nilS (.tolds xs) => some xs
 | _ => none
def decItem : List SV → Option GItem
 | [.int .i64 k, .int .i64 c, .int .i64 w, .int .i64 v, g] => match g.asBool with
   | some g => some ⟨k, ⟨c, w⟩, v, g⟩
   | none => none
 | _ => none
def decPeer : List SV → Option GPeer
 | [.int .i64 i, .int .i64 m] => some ⟨i, m⟩
 | _ => none
def decTold : List SV → Option GTold
 | [.int .i64 k, h, .int .i64 v] => match h.asBool with
   | some h => some ⟨k, h, v⟩
   | none => none
 | _ => none
def decCut : List SV → Option GCut
 | [.int .i64 a, .int .i64 b] => some ⟨a, b⟩
 | _ => none
def decMsg : List SV → Option GMsg
 | [.int .i64 kind, .int .i64 src, .int .i64 dst, ids, .int .i64 key, .int .i64 k, .int .i64 c, .int .i64 w, .int .i64 v, g, h] =>
   match ids.asInts, g.asBool, h.asBool with
   | some ids, some g, some h => some ⟨kind, src, dst, ids, key, ⟨k, ⟨c, w⟩, v, g⟩, h⟩
   | _, _, _ => none
 | _ => none
def decNode : List SV → Option GNode
 | [up, .int .i64 i, ps, is, its, log] => match up.asBool, ps.asPeers, is.asInts, its.asItems, log.asTolds with
   | some up, some ps, some is, some its, some log => some ⟨up, ⟨i, ps, is⟩, its, log⟩
   | _, _, _, _, _ => none
 | _ => none
def decAct : List SV → Option GAct
 | [.int .i64 kind, .int .i64 node, .int .i64 other, .int .i64 pick, ids, .int .i64 key, .int .i64 value] => match ids.asInts with
   | some ids => some ⟨kind, node, other, pick, ids, key, value⟩
   | none => none
 | _ => none
def decInt : List SV → Option Int
 | [.int .i64 n] => some n
 | _ => none
def decByte : List SV → Option Int
 | [.int .u8 n] => some n
 | _ => none
def decStr : List SV → Option ByteArray
 | [.str s] => some s
 | _ => none
def decInts : List SV → Option (List Int)
 | [x] => x.asInts
 | _ => none
def decBool : List SV → Option Bool
 | [x] => x.asBool
 | _ => none
def decAll {α : Type} (dec : List SV → Option α) : List (List SV) → Option (List α)
 | [] => some []
 | c :: cs => match dec c, decAll dec cs with
   | some x, some xs => some (x :: xs)
   | _, _ => none
def mkRow (k : Nat) (es : List (List SV)) : Option Rw :=
 match k with
 | 0 => (decAll decInt es).map .ints
 | 1 => (decAll decByte es).map .bytes
 | 2 => (decAll decStr es).map .strs
 | 3 => (decAll decPeer es).map .peers
 | 4 => (decAll decItem es).map .items
 | 5 => (decAll decTold es).map .tolds
 | 6 => (decAll decCut es).map .cuts
 | 7 => (decAll decMsg es).map .msgs
 | 8 => (decAll decNode es).map .nodes
 | 9 => (decAll decAct es).map .acts
 | 10 => (decAll decInts es).map .intss
 | 11 => (decAll decBool es).map .bools
 | _ => none
def Rw.setE : Rw → Nat → List SV → Option Rw
 | .ints xs, i, c => (decInt c).map fun x => .ints (xs.set i x)
 | .bytes xs, i, c => (decByte c).map fun x => .bytes (xs.set i x)
 | .strs xs, i, c => (decStr c).map fun x => .strs (xs.set i x)
 | .peers xs, i, c => (decPeer c).map fun x => .peers (xs.set i x)
 | .items xs, i, c => (decItem c).map fun x => .items (xs.set i x)
 | .tolds xs, i, c => (decTold c).map fun x => .tolds (xs.set i x)
 | .cuts xs, i, c => (decCut c).map fun x => .cuts (xs.set i x)
 | .msgs xs, i, c => (decMsg c).map fun x => .msgs (xs.set i x)
 | .nodes xs, i, c => (decNode c).map fun x => .nodes (xs.set i x)
 | .acts xs, i, c => (decAct c).map fun x => .acts (xs.set i x)
 | .intss xs, i, c => (decInts c).map fun x => .intss (xs.set i x)
 | .bools xs, i, c => (decBool c).map fun x => .bools (xs.set i x)
def Rw.app : Rw → Rw → Option Rw
 | .ints xs, .ints ys => some (.ints (xs ++ ys))
 | .bytes xs, .bytes ys => some (.bytes (xs ++ ys))
 | .strs xs, .strs ys => some (.strs (xs ++ ys))
 | .peers xs, .peers ys => some (.peers (xs ++ ys))
 | .items xs, .items ys => some (.items (xs ++ ys))
 | .tolds xs, .tolds ys => some (.tolds (xs ++ ys))
 | .cuts xs, .cuts ys => some (.cuts (xs ++ ys))
 | .msgs xs, .msgs ys => some (.msgs (xs ++ ys))
 | .nodes xs, .nodes ys => some (.nodes (xs ++ ys))
 | .acts xs, .acts ys => some (.acts (xs ++ ys))
 | .intss xs, .intss ys => some (.intss (xs ++ ys))
 | .bools xs, .bools ys => some (.bools (xs ++ ys))
 | _, _ => none
def Rw.sub (l h : Nat) : Rw → Rw
 | .ints xs => .ints ((xs.take h).drop l)
 | .bytes xs => .bytes ((xs.take h).drop l)
 | .strs xs => .strs ((xs.take h).drop l)
 | .peers xs => .peers ((xs.take h).drop l)
 | .items xs => .items ((xs.take h).drop l)
 | .tolds xs => .tolds ((xs.take h).drop l)
 | .cuts xs => .cuts ((xs.take h).drop l)
 | .msgs xs => .msgs ((xs.take h).drop l)
 | .nodes xs => .nodes ((xs.take h).drop l)
 | .acts xs => .acts ((xs.take h).drop l)
 | .intss xs => .intss ((xs.take h).drop l)
 | .bools xs => .bools ((xs.take h).drop l)
def Rw.zeros (k n : Nat) : Rw :=
 match k with
 | 1 => .bytes (List.replicate n 0)
 | 2 => .strs (List.replicate n ByteArray.empty)
 | 3 => .peers (List.replicate n default)
 | 4 => .items (List.replicate n default)
 | 5 => .tolds (List.replicate n default)
 | 6 => .cuts (List.replicate n default)
 | 7 => .msgs (List.replicate n default)
 | 8 => .nodes (List.replicate n default)
 | 9 => .acts (List.replicate n default)
 | 10 => .intss (List.replicate n [])
 | 11 => .bools (List.replicate n false)
 | _ => .ints (List.replicate n 0)
inductive TD where
 | int (k : IntKind)
 | bool
 | str
 | slice (e : TypeId)
 | struct (fs : List (Nat × TypeId))
 | arr (n : Nat) (e : TypeId)
 | other
structure TI where
 td : TD
 sz : Nat
 bytes : Nat
 zero : List SV
structure Tys where
 ti : TypeId → Option TI
 rk : TypeId → Option Nat
 et : Nat → TypeId
 sh : TypeId → Option (List Nat)
def Tys.td (τ : Tys) (T : TypeId) : TD := match τ.ti T with
 | some i => i.td
 | none => .other
def Tys.agg (τ : Tys) (T : TypeId) : Bool := match τ.td T with
 | .struct _ => true
 | .arr _ _ => true
 | _ => false
def Tys.sz (τ : Tys) (T : TypeId) : Nat := match τ.ti T with
 | some i => i.sz
 | none => 0
def Tys.rowKind (τ : Tys) (T : TypeId) : Option Nat := match τ.td T with
 | .slice e => τ.rk e
 | _ => none
inductive Ent where
 | own (r : Rw)
 | part (lo : Nat) (r : Rw)
 | shared (t : Tag) (r : Rw)
structure St where
 fr : List (Nat × SV)
 stk : List (List (Nat × SV))
 boxes : List (Nat × (TypeId × List SV))
 rows : List (Nat × Ent)
 dep : Nat
def lkv : List (Nat × SV) → Nat → SV
 | [], _ => .junk
 | (k, v) :: l, t => match Nat.beq k t with
   | true => v
   | false => lkv l t
def lk {α : Type} : List (Nat × α) → Nat → Option α
 | [], _ => none
 | (k, v) :: l, t => match Nat.beq k t with
   | true => some v
   | false => lk l t
def upd {α : Type} : List (Nat × α) → Nat → α → List (Nat × α)
 | [], k, v => [(k, v)]
 | (k', v') :: l, k, v => match Nat.beq k' k with
   | true => (k, v) :: l
   | false => (k', v') :: upd l k v
def nth {α : Type} : List α → Nat → Option α
 | [], _ => none
 | x :: _, 0 => some x
 | _ :: l, n + 1 => nth l n
def SV.force {α : Type} (v : SV) (K : SV → α) : α :=
 match v with
 | .int k n => K (.int k n)
 | .bool b => K (.bool b)
 | .lit b => K (.lit b)
 | .str s => K (.str s)
 | .row t r => K (.row t r)
 | .nilS r => K (.nilS r)
 | .pre t r n => K (.pre t r n)
 | .own k => K (.own k)
 | .box k off => K (.box k off)
 | .pt t cs => K (.pt t cs)
 | .oel k i off => K (.oel k i off)
 | .agg cs => K (.agg cs)
 | .tup vs => K (.tup vs)
 | .clo f a c => K (.clo f a c)
 | .junk => K .junk
theorem SV.force_eq {α : Type} (v : SV) (K : SV → α) : v.force K = K v := by cases v <;> rfl
def forceL {α : Type} : List SV → (List SV → α) → α
 | [], K => K []
 | v :: l, K => v.force fun v' => forceL l fun l' => K (v' :: l')
theorem forceL_eq {α : Type} (l : List SV) (K : List SV → α) : forceL l K = K l := by
 induction l generalizing K with
 | nil => rfl
 | cons v l ih => simp only [forceL, SV.force_eq, ih]
def SV.cells : SV → List SV
 | .agg cs => cs
 | v => [v]
def SV.ofVal : Value → SV
 | .int k n => .int k n
 | .bool b => .lit b
 | .string s => .str s
 | _ => .junk
def SV.cook : SV → SV
 | .pre t r n => .row t (r.sub 0 n)
 | v => v
def St.raw (s : St) : Operand → SV
 | .tmp t => lkv s.fr t
 | .const v => SV.ofVal v
 | .func f => .clo f [] []
 | .global _ => .junk
def St.get (s : St) : Operand → SV
 | .tmp t => (lkv s.fr t).cook
 | .const v => SV.ofVal v
 | .func f => .clo f [] []
 | .global _ => .junk
def getT (τ : Tys) (s : St) (T : TypeId) : Operand → SV
 | .const (.slice none 0 0) => match τ.rowKind T with
   | some k => .nilS (mkEmpty k)
   | none => .junk
 | x => s.get x
def rawT (τ : Tys) (s : St) (T : TypeId) : Operand → SV
 | .const (.slice none 0 0) => match τ.rowKind T with
   | some k => .nilS (mkEmpty k)
   | none => .junk
 | x => s.raw x
def putv (d : Option Tmp) (v : SV) (s : St) : St :=
 match s, d with
 | ⟨fr, stk, b, r, p⟩, some d => ⟨(d, v) :: fr, stk, b, r, p⟩
 | ⟨fr, stk, b, r, p⟩, none => ⟨fr, stk, b, r, p⟩
inductive RS where
 | ok (s : St)
 | ob (p : Prop) (s : St)
 | bad
inductive RV where
 | ok (v : SV)
 | ob (p : Prop) (v : SV)
 | bad
def RV.to (r : RV) (d : Option Tmp) (s : St) : RS :=
 match r with
 | .ok v => v.force fun v => .ok (putv d v s)
 | .ob p v => v.force fun v => .ob p (putv d v s)
 | .bad => .bad
def sameK : IntKind → IntKind → Bool
 | .i8, .i8 => true
 | .i16, .i16 => true
 | .i32, .i32 => true
 | .i64, .i64 => true
 | .u8, .u8 => true
 | .u16, .u16 => true
 | .u32, .u32 => true
 | .u64, .u64 => true
 | _, _ => false
def eqCells : List Nat → List SV → List SV → Option Bool
 | [], [], [] => some true
 | 0 :: sh, .int .i64 a :: l, .int .i64 b :: l' => match sh, eqCells sh l l' with
   | [], some _ => some (decide (a = b))
   | _, some e => some (decide (a = b) && e)
   | _, none => none
 | (_ + 1) :: sh, x :: l, y :: l' => match sh, x.asBool, y.asBool, eqCells sh l l' with
   | [], some a, some b, some _ => some (a == b)
   | _, some a, some b, some e => some ((a == b) && e)
   | _, _, _, _ => none
 | _, _, _ => none
def evInt (op : BinOp) (k : IntKind) (a b : Int) : RV :=
 match op with
 | .add => .ok (.int k (k.wrap (a + b)))
 | .sub => .ok (.int k (k.wrap (a - b)))
 | .mul => .ok (.int k (k.wrap (a * b)))
 | .quo => .ob (b ≠ 0) (.int k (k.wrap (a.tdiv b)))
 | .rem => .ob (b ≠ 0) (.int k (a.tmod b))
 | .and => .ok (.int k (bits .and k a b))
 | .or => .ok (.int k (bits .or k a b))
 | .xor => .ok (.int k (bits .xor k a b))
 | .andNot => .ok (.int k (bits .andNot k a b))
 | .eql => .ok (.bool (decide (a = b)))
 | .neq => .ok (.bool (!decide (a = b)))
 | .lss => .ok (.bool (decide (a < b)))
 | .leq => .ok (.bool (decide (a ≤ b)))
 | .gtr => .ok (.bool (decide (b < a)))
 | .geq => .ok (.bool (decide (b ≤ a)))
 | _ => .bad
def evBin (τ : Tys) (T : TypeId) (op : BinOp) (x y : SV) : RV :=
 match x, y with
 | .int k a, .int k' b =>
   match op with
   | .shl => .ob (0 ≤ b ∧ b ≤ k.bits) (.int k (k.wrap (a * 2 ^ b.toNat)))
   | .shr => .ob (0 ≤ b ∧ b ≤ k.bits) (.int k (a / 2 ^ b.toNat))
   | op => match sameK k k' with
     | true => evInt op k a b
     | false => .bad
 | .str a, .str b =>
   match op with
   | .add => .ob (a.size + b.size ≤ 9223372036854775807) (.str (a ++ b))
   | .eql => .ok (.bool (a.toList == b.toList))
   | .neq => .ok (.bool (!(a.toList == b.toList)))
   | _ => .bad
 | .agg a, .agg b =>
   match τ.sh T with
   | some sh => match op, eqCells sh a b with
     | .eql, some e => .ok (.bool e)
     | .neq, some e => .ok (.bool (!e))
     | _, _ => .bad
   | none => .bad
 | x, y =>
   match τ.td T, op, x.asBool, y.asBool with
   | .bool, .eql, some a, some b => .ok (.bool (a == b))
   | .bool, .neq, some a, some b => .ok (.bool (!(a == b)))
   | _, _, _, _ => .bad
def evUn (op : UnOp) (x : SV) : RV :=
 match op, x with
 | .not, .bool b => .ok (.bool (!b))
 | .not, .lit true => .ok (.lit false)
 | .not, .lit false => .ok (.lit true)
 | .neg, .int k n => .ok (.int k (k.wrap (0 - n)))
 | _, _ => .bad
def evPick (c a b : SV) : RV :=
 match c with
 | .lit true => .ok a
 | .lit false => .ok b
 | .bool c => match a.asBool, b.asBool with
   | some a, some b => .ok (.bool (bif c then a else b))
   | _, _ => .bad
 | _ => .bad
theorem seal_ex {α : Type} (a : α) : ∃ b, b = a := ⟨a, rfl⟩
noncomputable def byteAt (s : ByteArray) (i : Nat) : Int := Classical.choose (seal_ex (if h : i < s.size then ((s[i]'h).toNat : Int) else 0))
theorem byteAt_def (s : ByteArray) (i : Nat) : byteAt s i = if h : i < s.size then ((s[i]'h).toNat : Int) else 0 := Classical.choose_spec (seal_ex _)
def cut {α : Type} (cs : List α) (off n : Nat) : List α := (cs.drop off).take n
def part' (τ : Tys) (T : TypeId) (cs : List SV) (off : Nat) : RV :=
 match τ.ti T with
 | none => .bad
 | some _ => match τ.agg T with
 | true => match Nat.ble (off + τ.sz T) cs.length with
   | true => forceL (cut cs off (τ.sz T)) fun l => .ok (.agg l)
   | false => .bad
 | false => match nth cs off with
   | some v => .ok v
   | none => .bad
def setRange {α : Type} : List α → Nat → List α → List α
 | cs, _, [] => cs
 | [], _, _ => []
 | _ :: cs, 0, v :: vs => v :: setRange cs 0 vs
 | c :: cs, n + 1, vs => c :: setRange cs n vs
def own0 (k : Nat) : SV → Bool
 | .own j => Nat.beq j k
 | .oel j _ _ => Nat.beq j k
 | _ => false
def box0 (k : Nat) : SV → Bool
 | .box j _ => Nat.beq j k
 | _ => false
def anyL (p : SV → Bool) : List SV → Bool
 | [] => false
 | v :: l => match p v with
   | true => true
   | false => anyL p l
def deepf (p : SV → Bool) : SV → Bool
 | .agg cs => anyL p cs
 | v => p v
def deep1 (p : SV → Bool) : SV → Bool
 | .clo _ a c => match anyL (deepf p) a with
   | true => true
   | false => anyL p c
 | v => p v
def deep2 (p : SV → Bool) : SV → Bool
 | .agg cs => anyL (deep1 p) cs
 | v => deep1 p v
def deep3 (p : SV → Bool) : SV → Bool
 | .tup vs => anyL (deep2 p) vs
 | v => deep2 p v
def frHas (p : SV → Bool) : List (Nat × SV) → Bool
 | [] => false
 | (_, v) :: l => match deep3 p v with
   | true => true
   | false => frHas p l
def stkHas (p : SV → Bool) : List (List (Nat × SV)) → Bool
 | [] => false
 | f :: l => match frHas p f with
   | true => true
   | false => stkHas p l
def boxesHas (p : SV → Bool) : List (Nat × (TypeId × List SV)) → Bool
 | [] => false
 | (_, (_, cs)) :: l => match anyL (deep1 p) cs with
   | true => true
   | false => boxesHas p l
def St.has (p : SV → Bool) (s : St) : Bool := match frHas p s.fr with
 | true => true
 | false => match stkHas p s.stk with
   | true => true
   | false => boxesHas p s.boxes
def killV (k : Nat) (v : SV) : SV := match deep3 (own0 k) v with
 | true => .junk
 | false => v
def killF (k : Nat) : List (Nat × SV) → List (Nat × SV)
 | [] => []
 | (t, v) :: l => (t, killV k v) :: killF k l
def killS (k : Nat) : List (List (Nat × SV)) → List (List (Nat × SV))
 | [] => []
 | f :: l => killF k f :: killS k l
def killC (k : Nat) : List SV → List SV
 | [] => []
 | v :: l => killV k v :: killC k l
def killB (k : Nat) : List (Nat × (TypeId × List SV)) → List (Nat × (TypeId × List SV))
 | [] => []
 | (b, (T, cs)) :: l => (b, (T, killC k cs)) :: killB k l
def forceF {α : Type} : List (Nat × SV) → (List (Nat × SV) → α) → α
 | [], K => K []
 | (t, v) :: l, K => v.force fun v' => forceF l fun l' => K ((t, v') :: l')
theorem forceF_eq {α : Type} (l : List (Nat × SV)) (K : List (Nat × SV) → α) : forceF l K = K l := by
 induction l generalizing K with
 | nil => rfl
 | cons v l ih => obtain ⟨t, v⟩ := v; simp only [forceF, SV.force_eq, ih]
def forceS {α : Type} : List (List (Nat × SV)) → (List (List (Nat × SV)) → α) → α
 | [], K => K []
 | f :: l, K => forceF f fun f' => forceS l fun l' => K (f' :: l')
theorem forceS_eq {α : Type} (l : List (List (Nat × SV))) (K : List (List (Nat × SV)) → α) : forceS l K = K l := by
 induction l generalizing K with
 | nil => rfl
 | cons v l ih => simp only [forceS, forceF_eq, ih]
def forceB {α : Type} : List (Nat × (TypeId × List SV)) → (List (Nat × (TypeId × List SV)) → α) → α
 | [], K => K []
 | (b, (T, cs)) :: l, K => forceL cs fun cs' => forceB l fun l' => K ((b, (T, cs')) :: l')
theorem forceB_eq {α : Type} (l : List (Nat × (TypeId × List SV))) (K : List (Nat × (TypeId × List SV)) → α) : forceB l K = K l := by
 induction l generalizing K with
 | nil => rfl
 | cons v l ih => obtain ⟨b, T, cs⟩ := v; simp only [forceB, forceL_eq, ih]
def Ent.row : Ent → Tag × Rw
 | .own r => (.new, r)
 | .part _ r => (match r.flat with
   | true => .new
   | false => .any, r)
 | .shared t r => (t, r)
def res1 (R : List (Nat × Ent)) : SV → SV
 | .own k => match lk R k with
   | some e => match e.row with
     | (t, r) => .row t r
   | none => .junk
 | v => v
def SV.plain : SV → SV
 | .int k n => .int k n
 | .bool b => .bool b
 | .lit b => .bool b
 | .str s => .str s
 | .row _ r => .row .any r
 | .nilS r => .row .any r
 | _ => .junk
def plainL (R : List (Nat × Ent)) : List SV → List SV
 | [] => []
 | v :: l => (res1 R v).plain :: plainL R l
def noJunk : List SV → Bool
 | [] => true
 | .junk :: _ => false
 | _ :: l => noJunk l
def ptOf (cs : List SV) : SV := match noJunk cs with
 | true => .pt .any cs
 | false => .junk
def resP (s : St) : SV → SV
 | .pt _ cs => forceL (plainL s.rows cs) ptOf
 | .box k off => match lk s.boxes k with
   | some (_, cs) => forceL (plainL s.rows (cs.drop off)) ptOf
   | none => .junk
 | .oel k i off => match lk s.rows k with
   | some (.own r) => .pt .any ((r.cell .any i.toNat).drop off)
   | some (.part _ r) => .pt .any ((r.cell .any i.toNat).drop off)
   | _ => .junk
 | v => (res1 s.rows v).plain
def resF (s : St) : SV → SV
 | .agg cs => .agg (plainL s.rows cs)
 | v => resP s v
def mapP (f : SV → SV) : List SV → List SV
 | [] => []
 | v :: l => f v :: mapP f l
def resA (s : St) : SV → SV
 | .clo f a c => .clo f (mapP (resF s) a) (mapP (resP s) c)
 | v => resF s v
end Go.Proofs.YtjjpakdlkjaigaaGreat

/- A symbolic executor for loaded Go code: what its states say of the machine's. -/
namespace Go.Proofs.YtjjpakdlkjaigaaGreat
open Go.RowKit
structure Env where
 base : Nat
 M : Nat
 bs : Nat → Nat
 hs : Nat → Value
 ow : Nat → Prop
def unfz (w : World) (g : Nat) : Prop := ∀ c T lo hi, w.heap[g]? = some (.cells c T (lo, hi)) → hi ≤ lo ∨ c.size ≤ lo
theorem unfz.of {w w' : World} {g : Nat} (h : unfz w g) (he : w'.heap[g]? = w.heap[g]?) : unfz w' g := fun c T lo hi hc => h c T lo hi (he ▸ hc)
theorem unfz_row {w : World} {g : Nat} {c : Array Value} {T : TypeId} (h : w.heap[g]? = some (.cells c T (0, 0))) : unfz w g := fun c' T' lo hi hc => by
 rw [h] at hc
 injection hc with hc
 injection hc with _ _ hc
 injection hc with h1 h2
 omega
def Env.F (E : Env) (w : World) (t : Tag) (g : Nat) : Prop := ¬ E.ow g ∧ match t with
 | .old => g < E.M
 | .new => E.M ≤ g ∧ unfz w g
 | .any => True
def sc : SV → Value → Prop
 | .int k n, v => v = .int k n
 | .bool b, v => v = .bool b
 | .lit b, v => v = .bool b
 | .str s, v => v = .string s
 | _, _ => False
def RowD (cd : SV → Value → Prop) (w : World) (F : Nat → Prop) (r : Rw) (v : Value) : Prop :=
 r.len * r.bts ≤ 140737488355328 ∧ ∃ A c, v = .slice A r.len c ∧ r.len ≤ c ∧
  (0 < r.len → ∃ ad : Addr, A = some ad ∧ ad.spot = none ∧ F ad.block ∧
    ∀ (i j : Nat) x, i < r.len → (r.cell .any i)[j]? = some x → ∃ u, w.cell? (ad.add (i * r.sz + j)) = some u ∧ cd x u)
def cd1 (w : World) (F : Nat → Prop) : SV → Value → Prop
 | .row _ r, u => RowD sc w F r u
 | x, u => sc x u
def RowDen (w : World) (F : Nat → Prop) (r : Rw) (v : Value) : Prop := RowD (cd1 w F) w F r v
def cd2 (w : World) (F : Nat → Prop) : SV → Value → Prop
 | .row _ r, u => RowDen w F r u
 | x, u => sc x u
def L0 (p : SV → Value → Prop) (cs : List SV) (us : List Value) : Prop := cs.length = us.length ∧ ∀ (j : Nat) x, cs[j]? = some x → ∃ u, us[j]? = some u ∧ p x u
theorem L0.mono {p q : SV → Value → Prop} {cs : List SV} {us : List Value} (h : L0 p cs us) (hq : ∀ x u, x ∈ cs → p x u → q x u) : L0 q cs us :=
 ⟨h.1, fun j x hx => let ⟨u, hu, hp⟩ := h.2 j x hx; ⟨u, hu, hq x u (List.mem_of_getElem? hx) hp⟩⟩
theorem L0.nil {p : SV → Value → Prop} : L0 p [] [] := ⟨rfl, fun j x h => by simp at h⟩
theorem L0.cons {p : SV → Value → Prop} {x : SV} {u : Value} {cs : List SV} {us : List Value} (h : p x u) (hl : L0 p cs us) : L0 p (x :: cs) (u :: us) := by
 refine ⟨by simp [hl.1], fun j y hy => ?_⟩
 cases j with
 | zero => simp at hy; subst hy; exact ⟨u, by simp, h⟩
 | succ j => simpa using hl.2 j y (by simpa using hy)
theorem L0.inv_cons {p : SV → Value → Prop} {x : SV} {cs : List SV} {us : List Value} (h : L0 p (x :: cs) us) : ∃ u us', us = u :: us' ∧ p x u ∧ L0 p cs us' := by
 cases us with
 | nil => have := h.1; simp at this
 | cons u us =>
   refine ⟨u, us, rfl, ?_, ?_⟩
   · obtain ⟨u', hu, hp⟩ := h.2 0 x (by simp)
     simp at hu; subst hu; exact hp
   · exact ⟨by have := h.1; simpa using this, fun j y hy => by simpa using h.2 (j + 1) y (by simpa using hy)⟩
theorem L0.inv_nil {p : SV → Value → Prop} {us : List Value} (h : L0 p [] us) : us = [] := by
 have := h.1; simp at this; exact List.eq_nil_of_length_eq_zero this.symm
theorem L0.drop {p : SV → Value → Prop} {cs : List SV} {us : List Value} (h : L0 p cs us) (n : Nat) : L0 p (cs.drop n) (us.drop n) :=
 ⟨by simp [h.1], fun j x hx => by
   rw [List.getElem?_drop] at hx ⊢
   exact h.2 _ x hx⟩
theorem L0.take {p : SV → Value → Prop} {cs : List SV} {us : List Value} (h : L0 p cs us) (n : Nat) : L0 p (cs.take n) (us.take n) :=
 ⟨by simp [h.1], fun j x hx => by
   rw [List.getElem?_take] at hx ⊢
   split at hx
   · rename_i hj; rw [if_pos hj]; exact h.2 _ x hx
   · simp at hx⟩
theorem L0.append {p : SV → Value → Prop} {cs cs' : List SV} {us us' : List Value} (h : L0 p cs us) (h' : L0 p cs' us') : L0 p (cs ++ cs') (us ++ us') := by
 refine ⟨by simp [h.1, h'.1], fun j x hx => ?_⟩
 by_cases hj : j < cs.length
 · rw [List.getElem?_append_left hj] at hx
   rw [List.getElem?_append_left (by rw [← h.1]; exact hj)]
   exact h.2 j x hx
 · rw [List.getElem?_append_right (by omega)] at hx
   rw [List.getElem?_append_right (by rw [← h.1]; omega), ← h.1]
   exact h'.2 _ x hx
def Ent.mine : Ent → Option (Nat × Rw)
 | .own r => some (r.len, r)
 | .part lo r => some (lo, r)
 | .shared _ _ => none
def vd0 (E : Env) (R : List (Nat × Ent)) (w : World) : SV → Value → Prop
 | .int k n, v => v = .int k n
 | .bool b, v => v = .bool b
 | .lit b, v => v = .bool b
 | .str s, v => v = .string s
 | .row t r, v => RowDen w (E.F w t) r v
 | .nilS r, v => v = .slice none 0 0 ∧ r.len = 0
 | .pre t r n, v => ∃ A c, v = .slice A n c ∧ n ≤ r.len ∧ RowDen w (E.F w t) r (.slice A r.len c)
 | .own k, v => match lk R k with
   | some (.own _) => v = E.hs k
   | some (.part _ _) => v = E.hs k
   | some (.shared t r) => RowDen w (E.F w t) r v
   | none => True
 | .box k off, v => v = .pointer (some ⟨E.bs k, off, none⟩)
 | .pt t cs, v => ∃ ad : Addr, v = .pointer (some ad) ∧ ad.spot = none ∧ ad.block < w.heap.size ∧ E.F w t ad.block ∧ ∀ (j : Nat) x, cs[j]? = some x → ∃ u, w.cell? (ad.add j) = some u ∧ cd2 w (E.F w t) x u
 | .oel k i off, v => match lk R k with
   | some (.own r) => ∃ g n c, E.hs k = .slice (some ⟨g, 0, none⟩) n c ∧ 0 ≤ i ∧ i < r.len ∧ v = .pointer (some ⟨g, i.toNat * r.sz + off, none⟩)
   | some (.part _ r) => ∃ g n c, E.hs k = .slice (some ⟨g, 0, none⟩) n c ∧ 0 ≤ i ∧ i < r.len ∧ v = .pointer (some ⟨g, i.toNat * r.sz + off, none⟩)
   | _ => True
 | .junk, _ => True
 | _, _ => False
def vdf (E : Env) (R : List (Nat × Ent)) (w : World) : SV → Value → Prop
 | .agg cs, v => ∃ us, v = .agg (us : List Value).toArray ∧ L0 (vd0 E R w) cs us
 | x, v => vd0 E R w x v
def vd1 (E : Env) (R : List (Nat × Ent)) (w : World) : SV → Value → Prop
 | .clo f a c, v => ∃ us vs, v = .func (.func f) (us : List Value).toArray (vs : List Value).toArray ∧ L0 (vdf E R w) a us ∧ L0 (vd0 E R w) c vs
 | x, v => vd0 E R w x v
def vd2 (E : Env) (R : List (Nat × Ent)) (w : World) : SV → Value → Prop
 | .agg cs, v => ∃ us, v = .agg (us : List Value).toArray ∧ L0 (vd1 E R w) cs us
 | x, v => vd1 E R w x v
def vd3 (E : Env) (R : List (Nat × Ent)) (w : World) : SV → Value → Prop
 | .tup vs, v => ∃ us, v = .tuple (us : List Value).toArray ∧ L0 (vd2 E R w) vs us
 | x, v => vd2 E R w x v
theorem sub_cell (l h : Nat) (r : Rw) (hl : l ≤ h) (hh : h ≤ r.len) : (r.sub l h).kd = r.kd ∧ (r.sub l h).len = h - l ∧ ∀ t i, i < h - l → (r.sub l h).cell t i = r.cell t (l + i) := by
 cases r <;> simp only [Rw.len] at hh <;> refine ⟨rfl, by simp [Rw.sub, Rw.len]; omega, fun t i hi => ?_⟩ <;>
  simp only [Rw.sub, Rw.cell, List.getD_eq_getElem?_getD, List.getElem?_drop, List.getElem?_take, if_pos (show l + i < h by omega)]
theorem RowDen.pre {w : World} {F : Nat → Prop} {r : Rw} {A : Option Addr} {n c : Nat} (hn : n ≤ r.len) (h : RowDen w F r (.slice A r.len c)) : RowDen w F (r.sub 0 n) (.slice A n c) := by
 obtain ⟨hkd, hlen, hcell⟩ := sub_cell 0 n r (Nat.zero_le _) hn
 obtain ⟨h0, A', c', hv, hc, h⟩ := h
 injection hv with h1 h2 h3
 subst h1
 subst h3
 have hl : (r.sub 0 n).len = n := by rw [hlen]; omega
 have hb : (r.sub 0 n).bts = r.bts := by unfold Rw.bts; rw [hkd]
 have hs : (r.sub 0 n).sz = r.sz := by unfold Rw.sz; rw [hkd]
 refine ⟨by rw [hl, hb]; exact Nat.le_trans (Nat.mul_le_mul_right _ hn) h0, A, c, by rw [hl], by rw [hl]; omega, fun hp => ?_⟩
 rw [hl] at hp
 obtain ⟨ad, hA, hsp, hF, hcd⟩ := h (by omega)
 refine ⟨ad, hA, hsp, hF, fun i j x hi hx => ?_⟩
 rw [hl] at hi
 rw [hcell .any i (by omega), Nat.zero_add] at hx
 rw [hs]
 exact hcd i j x (by omega) hx
def FrD (E : Env) (R : List (Nat × Ent)) (w : World) (f : List (Nat × SV)) (a : Array Value) : Prop := ∀ t, vd3 E R w (lkv f t) (a.getD t undef)
structure BoxD (E : Env) (R : List (Nat × Ent)) (w : World) (k : Nat) (T : TypeId) (cs : List SV) : Prop where
 ow : E.ow (E.bs k)
 cells : ∃ us : List Value, w.heap[E.bs k]? = some (.cells us.toArray T (0, 0)) ∧ L0 (vd1 E R w) cs us
structure OwnD (τ : Tys) (E : Env) (w : World) (k lo : Nat) (r : Rw) : Prop where
 ow : ∀ g, (E.hs k).ownBlock = some g → E.ow g
 fits : r.len * r.bts ≤ 140737488355328
 row : ∃ us : List Value, w.ownsRow E.M (τ.et r.kd) r.sz (E.hs k) r.len us ∧
  ∀ (i j : Nat) x, i < r.len → (r.cell .any i)[j]? = some x → ∃ u, us[i * r.sz + j]? = some u ∧ cd1 w (E.F w (if i < lo then .new else .any)) x u
structure Den (τ : Tys) (w0 : World) (E : Env) (s : St) (aS : List (Array Value)) (w : World) : Prop where
 below : Below E.base w0 w
 bM : E.base ≤ E.M
 Mh : E.M ≤ w.heap.size
 owb : ∀ g, E.ow g → E.base ≤ g ∧ g < w.heap.size
 fr : ∀ (i : Nat) f, (s.fr :: s.stk)[i]? = some f → ∃ a, aS[i]? = some a ∧ FrD E s.rows w f a
 box : ∀ k T cs, lk s.boxes k = some (T, cs) → BoxD E s.rows w k T cs
 own : ∀ k e lo r, lk s.rows k = some e → e.mine = some (lo, r) → OwnD τ E w k lo r
 bb : ∀ k k' b b', lk s.boxes k = some b → lk s.boxes k' = some b' → k ≠ k' → E.bs k ≠ E.bs k'
 br : ∀ k k' b e m, lk s.boxes k = some b → lk s.rows k' = some e → e.mine = some m → (E.hs k').ownBlock ≠ some (E.bs k)
 rr : ∀ k k' e e' m m' g, lk s.rows k = some e → lk s.rows k' = some e' → e.mine = some m → e'.mine = some m' → k ≠ k' → (E.hs k).ownBlock = some g → (E.hs k').ownBlock ≠ some g
theorem cell_of_heap {w w' : World} {a : Addr} {u : Value} (h : w.cell? a = some u) (he : w'.heap[a.block]? = w.heap[a.block]?) : w'.cell? a = some u := (World.cell?_of_block he).trans h
theorem RowD.mono {cd cd' : SV → Value → Prop} {w w' : World} {F F' : Nat → Prop} {r : Rw} {v : Value} (h : RowD cd w F r v)
  (hw : ∀ g, F g → g < w.heap.size → w'.heap[g]? = w.heap[g]? ∧ F' g) (hc : ∀ x u, cd x u → cd' x u) : RowD cd' w' F' r v := by
 obtain ⟨h0, A, c, hv, hn, h⟩ := h
 refine ⟨h0, A, c, hv, hn, fun hp => ?_⟩
 obtain ⟨ad, hA, hs, hF, hcell⟩ := h hp
 -- a row with an element has a cell where its elements have cells
 by_cases hex : ∃ (i j : Nat) (x : SV), i < r.len ∧ (r.cell .any i)[j]? = some x
 · obtain ⟨i, j, x, hi, hx⟩ := hex
   obtain ⟨u, hu, _⟩ := hcell i j x hi hx
   have hlt : (ad.add (i * r.sz + j)).block < w.heap.size := World.block_lt_of_cell? w _ hu
   have hb : (ad.add (i * r.sz + j)).block = ad.block := by unfold Addr.add; split <;> rfl
   rw [hb] at hlt
   obtain ⟨he, hF'⟩ := hw _ hF hlt
   refine ⟨ad, hA, hs, hF', fun i j x hi hx => ?_⟩
   obtain ⟨u, hu, hd⟩ := hcell i j x hi hx
   have hb : (ad.add (i * r.sz + j)).block = ad.block := by unfold Addr.add; split <;> rfl
   exact ⟨u, cell_of_heap hu (by rw [hb]; exact he), hc x u hd⟩
 · exfalso
   apply hex
   refine ⟨0, 0, ((r.cell .any 0)[0]?).getD .junk, hp, ?_⟩
   cases r <;> rfl
theorem cd1.mono {w w' : World} {F F' : Nat → Prop} {x : SV} {u : Value} (h : cd1 w F x u) (hw : ∀ g, F g → g < w.heap.size → w'.heap[g]? = w.heap[g]? ∧ F' g) : cd1 w' F' x u := by
 cases x <;> first
  | exact h
  | exact RowD.mono h hw fun _ _ h => h
theorem RowDen.mono {w w' : World} {F F' : Nat → Prop} {r : Rw} {v : Value} (h : RowDen w F r v) (hw : ∀ g, F g → g < w.heap.size → w'.heap[g]? = w.heap[g]? ∧ F' g) : RowDen w' F' r v :=
 RowD.mono h hw fun _ _ h => cd1.mono h hw
theorem cd2.mono {w w' : World} {F F' : Nat → Prop} {x : SV} {u : Value} (h : cd2 w F x u) (hw : ∀ g, F g → g < w.heap.size → w'.heap[g]? = w.heap[g]? ∧ F' g) : cd2 w' F' x u := by
 cases x <;> first
  | exact h
  | exact RowDen.mono h hw
structure Keeps (E E' : Env) (w w' : World) : Prop where
 M : E'.M = E.M
 size : w.heap.size ≤ w'.heap.size
 heap : ∀ g, ¬ E.ow g → g < w.heap.size → w'.heap[g]? = w.heap[g]?
 ow : ∀ g, E'.ow g → E.ow g ∨ w.heap.size ≤ g
theorem Keeps.refl (E : Env) (w : World) : Keeps E E w w := ⟨rfl, Nat.le_refl _, fun _ _ _ => rfl, fun _ h => .inl h⟩
theorem Keeps.F {E E' : Env} {w w' : World} (h : Keeps E E' w w') (t : Tag) : ∀ g, E.F w t g → g < w.heap.size → w'.heap[g]? = w.heap[g]? ∧ E'.F w' t g := by
 intro g hF hlt
 refine ⟨h.heap g hF.1 hlt, ?_, ?_⟩
 · intro ho
   rcases h.ow g ho with h1 | h1
   · exact hF.1 h1
   · omega
 · have h2 := hF.2
   cases t with
   | old => show g < E'.M; rw [h.M]; exact h2
   | new => exact ⟨by rw [h.M]; exact h2.1, h2.2.of (h.heap g hF.1 hlt)⟩
   | any => trivial
theorem RowDen.keeps {E E' : Env} {w w' : World} {t : Tag} {r : Rw} {v : Value} (h : RowDen w (E.F w t) r v) (hk : Keeps E E' w w') : RowDen w' (E'.F w' t) r v := h.mono (hk.F t)
def Ent.like (w' : World) (E' : Env) (v : Value) (e e' : Ent) : Prop := e = e' ∨ (∃ lo lo' r r', e.mine = some (lo, r) ∧ e'.mine = some (lo', r') ∧ r.kd = r'.kd ∧ r.len = r'.len) ∨
 ∃ lo r t, e.mine = some (lo, r) ∧ e' = .shared t r ∧ RowDen w' (E'.F w' t) r v
def entLike (w' : World) (E' : Env) (v : Value) (e e' : Option Ent) : Prop := match e, e' with
 | some e, some e' => e.like w' E' v e'
 | none, none => True
 | _, _ => False
theorem entLike.refl (w' : World) (E' : Env) (v : Value) (e : Option Ent) : entLike w' E' v e e := by cases e <;> simp [entLike, Ent.like]
structure Names (E E' : Env) (R R' : List (Nat × Ent)) (w' : World) (v : SV) : Prop where
 own : ∀ k, deep3 (own0 k) v = true → E'.hs k = E.hs k ∧ entLike w' E' (E.hs k) (lk R k) (lk R' k)
 box : ∀ k, deep3 (box0 k) v = true → E'.bs k = E.bs k
theorem Rw.sz_of_kd {r r' : Rw} (h : r.kd = r'.kd) : r.sz = r'.sz := by unfold Rw.sz; rw [h]
theorem vd0.keeps {E E' : Env} {R R' : List (Nat × Ent)} {w w' : World} (hk : Keeps E E' w w') {x : SV} {v : Value}
  (ho : ∀ k, own0 k x = true → E'.hs k = E.hs k ∧ entLike w' E' (E.hs k) (lk R k) (lk R' k)) (hb : ∀ k, box0 k x = true → E'.bs k = E.bs k) (h : vd0 E R w x v) : vd0 E' R' w' x v := by
 cases x with
 | row t r => exact RowDen.keeps h hk
 | pre t r n => obtain ⟨A, c, hv, hn, hd⟩ := h; exact ⟨A, c, hv, hn, RowDen.keeps hd hk⟩
 | own k =>
   obtain ⟨h1, h2⟩ := ho k (by simp [own0])
   simp only [vd0] at h ⊢
   cases hR : lk R k with
   | none => rw [hR] at h2; cases hR' : lk R' k with
     | none => trivial
     | some e' => rw [hR'] at h2; exact h2.elim
   | some e =>
     rw [hR] at h h2
     cases hR' : lk R' k with
     | none => rw [hR'] at h2; exact h2.elim
     | some e' =>
       rw [hR'] at h2
       rcases h2 with h2 | ⟨lo, lo', r, r', m, m', _, _⟩ | ⟨lo, r, t, m, rfl, hd⟩
       · subst h2
         cases e with
         | own r => rw [h1]; exact h
         | part lo r => rw [h1]; exact h
         | shared t r => exact RowDen.keeps h hk
       · cases e <;> cases e' <;> simp_all [Ent.mine]
       · cases e with
         | own r => rw [show v = _ from h]; exact hd
         | part lo r => rw [show v = _ from h]; exact hd
         | shared t r => simp [Ent.mine] at m
 | box k off =>
   have := hb k (by simp [box0])
   simp only [vd0] at h ⊢
   rw [this]; exact h
 | pt t cs =>
   obtain ⟨ad, hv, hs, hlt, hF, hc⟩ := h
   have hb' : ∀ j, (ad.add j).block = ad.block := fun j => by unfold Addr.add; split <;> rfl
   obtain ⟨he, hF'⟩ := hk.F t _ hF hlt
   refine ⟨ad, hv, hs, Nat.lt_of_lt_of_le hlt hk.size, hF', fun j x hx => ?_⟩
   obtain ⟨u, hu, hd⟩ := hc j x hx
   exact ⟨u, cell_of_heap hu (by rw [hb']; exact he), cd2.mono hd (hk.F t)⟩
 | oel k i off =>
   obtain ⟨h1, h2⟩ := ho k (by simp [own0])
   simp only [vd0] at h ⊢
   cases hR : lk R k with
   | none => rw [hR] at h2; cases hR' : lk R' k with
     | none => trivial
     | some e' => rw [hR'] at h2; exact h2.elim
   | some e =>
     rw [hR] at h h2
     cases hR' : lk R' k with
     | none => rw [hR'] at h2; exact h2.elim
     | some e' =>
       rw [hR'] at h2
       rcases h2 with h2 | ⟨lo, lo', r, r', m, m', hkd, hlen⟩ | ⟨lo, r, t, m, rfl, hd⟩
       · subst h2
         cases e <;> first
          | trivial
          | (rw [h1]; exact h)
       · have hsz := Rw.sz_of_kd hkd
         cases e <;> cases e' <;> simp_all [Ent.mine]
       · trivial
 | _ => exact h
theorem anyL_of_mem {p : SV → Bool} {x : SV} {l : List SV} (h : x ∈ l) (hp : p x = true) : anyL p l = true := by
 induction l with
 | nil => simp at h
 | cons y l ih =>
   simp only [anyL]
   rcases List.mem_cons.1 h with rfl | h
   · rw [hp]
   · split
     · rfl
     · exact ih h
theorem vdf.keeps {E E' : Env} {R R' : List (Nat × Ent)} {w w' : World} (hk : Keeps E E' w w') {x : SV} {v : Value}
  (ho : ∀ k, deepf (own0 k) x = true → E'.hs k = E.hs k ∧ entLike w' E' (E.hs k) (lk R k) (lk R' k))
  (hb : ∀ k, deepf (box0 k) x = true → E'.bs k = E.bs k) (h : vdf E R w x v) : vdf E' R' w' x v := by
 cases x with
 | agg cs =>
   obtain ⟨us, hv, hl⟩ := h
   exact ⟨us, hv, hl.mono fun y u hy hp => vd0.keeps hk (fun k hy' => ho k (anyL_of_mem hy hy')) (fun k hy' => hb k (anyL_of_mem hy hy')) hp⟩
 | _ =>
   first
   | exact vd0.keeps (x := SV.int _ _) (v := v) hk ho hb h
   | exact vd0.keeps (x := SV.bool _) (v := v) hk ho hb h
   | exact vd0.keeps (x := SV.lit _) (v := v) hk ho hb h
   | exact vd0.keeps (x := SV.str _) (v := v) hk ho hb h
   | exact vd0.keeps (x := SV.row _ _) (v := v) hk ho hb h
   | exact vd0.keeps (x := SV.nilS _) (v := v) hk ho hb h
   | exact vd0.keeps (x := SV.pre _ _ _) (v := v) hk ho hb h
   | exact vd0.keeps (x := SV.own _) (v := v) hk ho hb h
   | exact vd0.keeps (x := SV.box _ _) (v := v) hk ho hb h
   | exact vd0.keeps (x := SV.pt _ _) (v := v) hk ho hb h
   | exact vd0.keeps (x := SV.oel _ _ _) (v := v) hk ho hb h
   | exact vd0.keeps (x := SV.agg _) (v := v) hk ho hb h
   | exact vd0.keeps (x := SV.tup _) (v := v) hk ho hb h
   | exact vd0.keeps (x := SV.clo _ _ _) (v := v) hk ho hb h
   | exact vd0.keeps (x := SV.junk) (v := v) hk ho hb h
   | exact False.elim h
theorem vd1.keeps {E E' : Env} {R R' : List (Nat × Ent)} {w w' : World} (hk : Keeps E E' w w') {x : SV} {v : Value}
  (ho : ∀ k, deep1 (own0 k) x = true → E'.hs k = E.hs k ∧ entLike w' E' (E.hs k) (lk R k) (lk R' k)) (hb : ∀ k, deep1 (box0 k) x = true → E'.bs k = E.bs k) (h : vd1 E R w x v) : vd1 E' R' w' x v := by
 cases x with
 | clo f a c =>
   obtain ⟨us, vs, hv, ha, hc⟩ := h
   refine ⟨us, vs, hv, ha.mono fun y u hy hp => vdf.keeps hk (fun k hy' => ho k ?_) (fun k hy' => hb k ?_) hp, hc.mono fun y u hy hp => vd0.keeps hk (fun k hy' => ho k ?_) (fun k hy' => hb k ?_) hp⟩
   · have := anyL_of_mem hy hy'
     simp only [deep1, this]
   · have := anyL_of_mem hy hy'
     simp only [deep1, this]
   · have := anyL_of_mem hy hy'
     simp only [deep1, this]; split <;> rfl
   · have := anyL_of_mem hy hy'
     simp only [deep1, this]; split <;> rfl
 | _ =>
   first
   | exact vd0.keeps (x := SV.int _ _) (v := v) hk ho hb h
   | exact vd0.keeps (x := SV.bool _) (v := v) hk ho hb h
   | exact vd0.keeps (x := SV.lit _) (v := v) hk ho hb h
   | exact vd0.keeps (x := SV.str _) (v := v) hk ho hb h
   | exact vd0.keeps (x := SV.row _ _) (v := v) hk ho hb h
   | exact vd0.keeps (x := SV.nilS _) (v := v) hk ho hb h
   | exact vd0.keeps (x := SV.pre _ _ _) (v := v) hk ho hb h
   | exact vd0.keeps (x := SV.own _) (v := v) hk ho hb h
   | exact vd0.keeps (x := SV.box _ _) (v := v) hk ho hb h
   | exact vd0.keeps (x := SV.pt _ _) (v := v) hk ho hb h
   | exact vd0.keeps (x := SV.oel _ _ _) (v := v) hk ho hb h
   | exact vd0.keeps (x := SV.agg _) (v := v) hk ho hb h
   | exact vd0.keeps (x := SV.tup _) (v := v) hk ho hb h
   | exact vd0.keeps (x := SV.clo _ _ _) (v := v) hk ho hb h
   | exact vd0.keeps (x := SV.junk) (v := v) hk ho hb h
   | exact False.elim h
theorem vd2.keeps {E E' : Env} {R R' : List (Nat × Ent)} {w w' : World} (hk : Keeps E E' w w') {x : SV} {v : Value}
  (ho : ∀ k, deep2 (own0 k) x = true → E'.hs k = E.hs k ∧ entLike w' E' (E.hs k) (lk R k) (lk R' k)) (hb : ∀ k, deep2 (box0 k) x = true → E'.bs k = E.bs k) (h : vd2 E R w x v) : vd2 E' R' w' x v := by
 cases x with
 | agg cs =>
   obtain ⟨us, hv, hl⟩ := h
   exact ⟨us, hv, hl.mono fun y u hy hp => vd1.keeps hk (fun k hy' => ho k (anyL_of_mem hy hy')) (fun k hy' => hb k (anyL_of_mem hy hy')) hp⟩
 | _ =>
   first
   | exact vd1.keeps (x := SV.int _ _) (v := v) hk ho hb h
   | exact vd1.keeps (x := SV.bool _) (v := v) hk ho hb h
   | exact vd1.keeps (x := SV.lit _) (v := v) hk ho hb h
   | exact vd1.keeps (x := SV.str _) (v := v) hk ho hb h
   | exact vd1.keeps (x := SV.row _ _) (v := v) hk ho hb h
   | exact vd1.keeps (x := SV.nilS _) (v := v) hk ho hb h
   | exact vd1.keeps (x := SV.pre _ _ _) (v := v) hk ho hb h
   | exact vd1.keeps (x := SV.own _) (v := v) hk ho hb h
   | exact vd1.keeps (x := SV.box _ _) (v := v) hk ho hb h
   | exact vd1.keeps (x := SV.pt _ _) (v := v) hk ho hb h
   | exact vd1.keeps (x := SV.oel _ _ _) (v := v) hk ho hb h
   | exact vd1.keeps (x := SV.agg _) (v := v) hk ho hb h
   | exact vd1.keeps (x := SV.tup _) (v := v) hk ho hb h
   | exact vd1.keeps (x := SV.clo _ _ _) (v := v) hk ho hb h
   | exact vd1.keeps (x := SV.junk) (v := v) hk ho hb h
   | exact False.elim h
theorem vd3.keeps {E E' : Env} {R R' : List (Nat × Ent)} {w w' : World} (hk : Keeps E E' w w') {x : SV} {v : Value} (hn : Names E E' R R' w' x) (h : vd3 E R w x v) : vd3 E' R' w' x v := by
 cases x with
 | tup vs =>
   obtain ⟨us, hv, hl⟩ := h
   exact ⟨us, hv, hl.mono fun y u hy hp => vd2.keeps hk (fun k hy' => hn.own k (anyL_of_mem hy hy')) (fun k hy' => hn.box k (anyL_of_mem hy hy')) hp⟩
 | _ =>
   first
   | exact vd2.keeps (x := SV.int _ _) (v := v) hk hn.own hn.box h
   | exact vd2.keeps (x := SV.bool _) (v := v) hk hn.own hn.box h
   | exact vd2.keeps (x := SV.lit _) (v := v) hk hn.own hn.box h
   | exact vd2.keeps (x := SV.str _) (v := v) hk hn.own hn.box h
   | exact vd2.keeps (x := SV.row _ _) (v := v) hk hn.own hn.box h
   | exact vd2.keeps (x := SV.nilS _) (v := v) hk hn.own hn.box h
   | exact vd2.keeps (x := SV.pre _ _ _) (v := v) hk hn.own hn.box h
   | exact vd2.keeps (x := SV.own _) (v := v) hk hn.own hn.box h
   | exact vd2.keeps (x := SV.box _ _) (v := v) hk hn.own hn.box h
   | exact vd2.keeps (x := SV.pt _ _) (v := v) hk hn.own hn.box h
   | exact vd2.keeps (x := SV.oel _ _ _) (v := v) hk hn.own hn.box h
   | exact vd2.keeps (x := SV.agg _) (v := v) hk hn.own hn.box h
   | exact vd2.keeps (x := SV.tup _) (v := v) hk hn.own hn.box h
   | exact vd2.keeps (x := SV.clo _ _ _) (v := v) hk hn.own hn.box h
   | exact vd2.keeps (x := SV.junk) (v := v) hk hn.own hn.box h
   | exact False.elim h
theorem Names.all {E E' : Env} {R R' : List (Nat × Ent)} {w' : World} {v : SV} (ho : ∀ k, E'.hs k = E.hs k ∧ entLike w' E' (E.hs k) (lk R k) (lk R' k)) (hb : ∀ k, E'.bs k = E.bs k) : Names E E' R R' w' v := ⟨fun k _ => ho k, fun k _ => hb k⟩
theorem Names.refl (E : Env) (R : List (Nat × Ent)) (w' : World) (v : SV) : Names E E R R w' v := ⟨fun _ _ => ⟨rfl, entLike.refl _ _ _ _⟩, fun _ _ => rfl⟩
theorem lkv_junk_of_has {p : SV → Bool} {f : List (Nat × SV)} (h : frHas p f = false) (t : Nat) (hj : p .junk = false) : deep3 p (lkv f t) = false := by
 induction f with
 | nil => simpa [lkv, deep3, deep2, deep1] using hj
 | cons x f ih =>
   obtain ⟨k, v⟩ := x
   simp only [frHas] at h
   simp only [lkv]
   split
   · split at h
     · simp at h
     · rename_i hv; simpa using hv
   · split at h
     · simp at h
     · exact ih h
theorem FrD.keeps {E E' : Env} {R R' : List (Nat × Ent)} {w w' : World} (hk : Keeps E E' w w') {f : List (Nat × SV)} {a : Array Value} (h : FrD E R w f a) (hn : ∀ t, Names E E' R R' w' (lkv f t)) : FrD E' R' w' f a :=
 fun t => vd3.keeps hk (hn t) (h t)
theorem lkv_kill (k : Nat) (f : List (Nat × SV)) (t : Nat) : lkv (killF k f) t = killV k (lkv f t) := by
 induction f with
 | nil => simp [killF, lkv, killV, deep3, deep2, deep1, own0]
 | cons x f ih =>
   obtain ⟨j, v⟩ := x
   simp only [killF, lkv]
   split
   · rfl
   · exact ih
theorem killV_own (k : Nat) (v : SV) : deep3 (own0 k) (killV k v) = false := by
 unfold killV
 split
 · simp [deep3, deep2, deep1, own0]
 · rename_i h; exact h
theorem vd3.kill {E : Env} {R : List (Nat × Ent)} {w : World} {x : SV} {v : Value} (k : Nat) (h : vd3 E R w x v) : vd3 E R w (killV k x) v := by
 unfold killV
 split
 · trivial
 · exact h
theorem FrD.kill {E : Env} {R : List (Nat × Ent)} {w : World} {f : List (Nat × SV)} {a : Array Value} (k : Nat) (h : FrD E R w f a) : FrD E R w (killF k f) a := by
 intro t
 rw [lkv_kill]
 exact (h t).kill k
theorem FrD.put {E : Env} {R : List (Nat × Ent)} {w : World} {f : List (Nat × SV)} {a : Act} {d : Nat} {x : SV} {v : Value} (h : FrD E R w f a.tmps) (hx : vd3 E R w x v) (hd : d < a.tmps.size) :
  FrD E R w ((d, x) :: f) (a.put (some d) v).tmps := by
 intro t
 simp only [lkv, Act.put]
 by_cases ht : d = t
 · subst ht
   rw [show Nat.beq d d = true from Nat.beq_refl d]
   simp only [Array.getD_eq_getD_getElem?, Array.getElem?_setIfInBounds_self_of_lt hd]
   exact hx
 · have : Nat.beq d t = false := by
    cases hb : Nat.beq d t with
    | false => rfl
    | true => exact absurd (Nat.eq_of_beq_eq_true hb) ht
   rw [this]
   have := h t
   simpa only [Array.getD_eq_getD_getElem?, Array.getElem?_setIfInBounds_ne ht] using this
theorem FrD.skip {E : Env} {R : List (Nat × Ent)} {w : World} {f : List (Nat × SV)} {a : Act} {v : Value} (h : FrD E R w f a.tmps) : FrD E R w f (a.put none v).tmps := h
def Fit : SV → SV → Prop
 | .int k n, .int k' n' => k = k' ∧ n = n'
 | .bool b, .bool b' => b = b'
 | .lit b, .bool b' => b = b'
 | .str s, .str s' => s = s'
 | .row _ r, .row _ r' => r = r' ∧ r.flat = true
 | .nilS r, .row _ r' => r = r' ∧ r.flat = true
 | _, _ => False
def FitL (c c' : List SV) : Prop := c.length = c'.length ∧ ∀ (j : Nat) x, c'[j]? = some x → ∃ y, c[j]? = some y ∧ Fit y x
theorem FitL.nil : FitL [] [] := ⟨rfl, fun j x h => by simp at h⟩
theorem FitL.cons {x y : SV} {c c' : List SV} (h : Fit y x) (hl : FitL c c') : FitL (y :: c) (x :: c') := by
 refine ⟨by simp [hl.1], fun j z hz => ?_⟩
 cases j with
 | zero => simp at hz; subst hz; exact ⟨y, by simp, h⟩
 | succ j => simpa using hl.2 j z (by simpa using hz)
end Go.Proofs.YtjjpakdlkjaigaaGreat

/- A symbolic executor for loaded Go code: its steps. Definitions alone. -/
namespace Go.Proofs.YtjjpakdlkjaigaaGreat
open Go.RowKit
inductive Out where
 | ok (v : SV) (rows : List Rw)
 | ob (p : Prop) (v : SV) (rows : List Rw)
 | bad
abbrev Spec := List SV → Out
abbrev CallT := List SV → St → (SV → St → Prop) → Prop
structure Ctx where
 spec : FuncId → Option Spec
 tr : FuncId → Option CallT
def forceE {α : Type} (e : Ent) (K : Ent → α) : α := match e with
 | .own r => K (.own r)
 | .part lo r => K (.part lo r)
 | .shared t r => K (.shared t r)
def forceR {α : Type} : List (Nat × Ent) → (List (Nat × Ent) → α) → α
 | [], K => K []
 | (t, e) :: l, K => forceE e fun e' => forceR l fun l' => K ((t, e') :: l')
theorem forceR_eq {α : Type} (l : List (Nat × Ent)) (K : List (Nat × Ent) → α) : forceR l K = K l := by
 induction l generalizing K with
 | nil => rfl
 | cons x l ih =>
   obtain ⟨t, e⟩ := x
   cases e <;> simp only [forceR, forceE, ih]
def demote1 (R : List (Nat × Ent)) (k : Nat) : List (Nat × Ent) := match lk R k with
 | some e => match e.row with
   | (t, r) => upd R k (.shared t r)
 | none => R
def demoteL : List SV → List (Nat × Ent) → List (Nat × Ent)
 | [], R => R
 | .own k :: l, R => demoteL l (demote1 R k)
 | _ :: l, R => demoteL l R
def Tag.isNew : Tag → Bool
 | .new => true
 | _ => false
def allNew : List SV → Bool
 | [] => true
 | .row t _ :: l => match t with
   | .new => allNew l
   | _ => false
 | .own _ :: _ => false
 | .box _ _ :: _ => false
 | _ :: l => allNew l
def loStep (lo : Nat) (i : Int) : Nat := if i = lo then lo + 1 else lo
def chunks {α : Type} (n : Nat) : Nat → List α → List (List α)
 | 0, _ => []
 | m + 1, l => l.take n :: chunks n m (l.drop n)
def flatZeros (z : List SV) : Nat → List SV
 | 0 => []
 | n + 1 => z ++ flatZeros z n
def oneOk (R : List (Nat × Ent)) : SV → Bool
 | .junk => false
 | .agg _ => false
 | .tup _ => false
 | .own k => match lk R k with
   | some _ => true
   | none => false
 | .oel k _ _ => match lk R k with
   | some (.own _) => true
   | some (.part _ _) => true
   | _ => false
 | _ => true
def allOne (R : List (Nat × Ent)) : List SV → Bool
 | [] => true
 | v :: l => match oneOk R v with
   | true => allOne R l
   | false => false
def resS (R : List (Nat × Ent)) : SV → SV
 | .own k => match lk R k with
   | some (.shared t r) => .row t r
   | _ => .junk
 | v => v
def resSL (R : List (Nat × Ent)) : List SV → List SV
 | [] => []
 | v :: l => resS R v :: resSL R l
def lay {α : Type} (bad : α) (τ : Tys) (s : St) (place : Nat → Option (Nat × TypeId)) : List (Nat × Operand) → List SV → (List SV → α) → α
 | [], cs, K => K cs
 | (i, x) :: l, cs, K => match place i with
   | some (off, T) => (getT τ s T x).force fun v =>
     match Nat.beq v.cells.length (τ.sz T), Nat.ble (off + τ.sz T) cs.length, allOne s.rows v.cells, τ.ti T with
     | true, true, true, some _ => forceL (setRange cs off v.cells) fun cs' => lay bad τ s place l cs' K
     | _, _, _, _ => bad
   | none => bad
def rawN (τ : Tys) (s : St) : List Operand → List TypeId → List SV
 | x :: xs, T :: Ts => rawT τ s T x :: rawN τ s xs Ts
 | x :: xs, [] => s.raw x :: rawN τ s xs []
 | [], _ => []
def getN (τ : Tys) (s : St) : List Operand → List TypeId → List SV
 | x :: xs, T :: Ts => getT τ s T x :: getN τ s xs Ts
 | x :: xs, [] => s.get x :: getN τ s xs []
 | [], _ => []
def renum0 (kb : Nat) : SV → SV
 | .own i => .own (kb + 100000 * i)
 | v => v
def renumL (f : SV → SV) : List SV → List SV
 | [] => []
 | v :: l => f v :: renumL f l
def renum1 (kb : Nat) : SV → SV
 | .agg cs => .agg (renumL (renum0 kb) cs)
 | v => renum0 kb v
def renum2 (kb : Nat) : SV → SV
 | .tup vs => .tup (renumL (renum1 kb) vs)
 | v => renum1 kb v
def allB (p : SV → Bool) : List SV → Bool
 | [] => true
 | v :: l => match p v with
   | true => allB p l
   | false => false
def keysFree (s : St) (kb : Nat) : Nat → Bool
 | 0 => true
 | n + 1 => match s.has (own0 (kb + 100000 * n)) with
   | true => false
   | false => keysFree s kb n
def keysOk (s : St) (kb : Nat) : List Rw → Nat → Bool
 | [], n => keysFree s kb n
 | _ :: l, n => keysOk s kb l (n + 1)
theorem keysOk_eq {s : St} {kb : Nat} : ∀ (l : List Rw) (n : Nat), keysOk s kb l n = keysFree s kb (n + l.length)
 | [], n => rfl
 | _ :: l, n => by rw [keysOk, keysOk_eq l]; congr 1; simp only [List.length_cons]; omega
theorem keysOk_eq0 {s : St} {kb : Nat} (l : List Rw) : keysOk s kb l 0 = keysFree s kb l.length := by rw [keysOk_eq, Nat.zero_add]
def addRows (R : List (Nat × Ent)) (kb : Nat) : List Rw → Nat → List (Nat × Ent)
 | [], _ => R
 | r :: l, n => addRows (upd R (kb + 100000 * n) (.own r)) kb l (n + 1)
def resOk0 (n : Nat) : SV → Bool
 | .int _ _ => true
 | .bool _ => true
 | .lit _ => true
 | .str _ => true
 | .row t _ => t.isNew
 | .nilS _ => true
 | .own i => Nat.ble (i + 1) n
 | _ => false
def resOk1 (n : Nat) : SV → Bool
 | .agg cs => allB (resOk0 n) cs
 | v => resOk0 n v
def resOk2 (n : Nat) : SV → Bool
 | .tup vs => allB (resOk1 n) vs
 | v => resOk1 n v
def putRes (d : Option Tmp) (v : SV) (rows : List Rw) (K : St → RS) : St → RS
 | ⟨fr, stk, bx, rw, dep⟩ => match resOk2 rows.length v with
   | true => match d with
     | none => K ⟨fr, stk, bx, rw, dep⟩
     | some d => match keysOk ⟨fr, stk, bx, rw, dep⟩ (dep + d) rows 0 with
       | true => (renum2 (dep + d) v).force fun v => K ⟨(d, v) :: fr, stk, bx, addRows rw (dep + d) rows 0, dep⟩
       | false => match keysOk ⟨fr, stk, bx, rw, dep⟩ (dep + d + 50000) rows 0 with
         | true => (renum2 (dep + d + 50000) v).force fun v => K ⟨(d, v) :: fr, stk, bx, addRows rw (dep + d + 50000) rows 0, dep⟩
         | false => .bad
   | false => .bad
def Rw.lenK {α : Type} (r : Rw) (K : Nat → α) : α := match r with
 | .ints l => K l.length
 | .bytes l => K l.length
 | .strs l => K l.length
 | .peers l => K l.length
 | .items l => K l.length
 | .tolds l => K l.length
 | .cuts l => K l.length
 | .msgs l => K l.length
 | .nodes l => K l.length
 | .acts l => K l.length
 | .intss l => K l.length
 | .bools l => K l.length
theorem Rw.lenK_eq {α : Type} (r : Rw) (K : Nat → α) : r.lenK K = K r.len := by cases r <;> rfl
def lenOf (R : List (Nat × Ent)) : SV → Option Nat
 | .str s => some s.size
 | .row _ r => r.lenK some
 | .nilS _ => some 0
 | .pre _ _ n => some n
 | .own k => match lk R k with
   | some e => match e.row with
     | (_, r) => r.lenK some
   | none => none
 | _ => none
def bound (τ : Tys) (s : St) (d : Int) : Option Operand → Option Int
 | none => some d
 | some x => match s.get x with
   | .int _ n => some n
   | _ => none
def falses : List SV → Nat → Bool
 | [], 0 => true
 | .bool false :: l, n + 1 => falses l n
 | _, _ => false
def arrB (τ : Tys) (T : TypeId) (i : TI) : Option Nat := match i.td with
 | .arr n _ => match Nat.beq T (τ.et 11) with
   | true => match falses i.zero n, Nat.blt 0 n, Nat.blt n 16777216 with
     | true, true, true => some n
     | _, _, _ => none
   | false => none
 | _ => none
def stepAlloc (τ : Tys) (T : TypeId) (d : Option Tmp) : St → RS
 | ⟨fr, stk, bx, rw, dep⟩ => match d, τ.ti T with
   | some d, some i => match arrB τ T i with
     | some n => match St.has (own0 (dep + d)) ⟨fr, stk, bx, rw, dep⟩ with
       | false => .ok ⟨(d, .oel (dep + d) 0 0) :: fr, stk, bx, upd rw (dep + d) (.own (.bools (List.replicate n false))), dep⟩
       | true => .bad
     | none => match St.has (box0 (dep + d)) ⟨fr, stk, bx, rw, dep⟩ with
       | false => forceL i.zero fun cs => forceB (upd bx (dep + d) (T, cs)) fun bx' => .ok ⟨(d, .box (dep + d) 0) :: fr, stk, bx', rw, dep⟩
       | true => .bad
   | _, _ => .bad
def stepBox (τ : Tys) (T : TypeId) (x : Operand) (d : Option Tmp) : St → RS
 | ⟨fr, stk, bx, rw, dep⟩ => match d with
   | some d => match St.has (box0 (dep + d)) ⟨fr, stk, bx, rw, dep⟩ with
     | false => (getT τ ⟨fr, stk, bx, rw, dep⟩ T x).force fun v => match allOne rw v.cells with
       | true => forceL v.cells fun cs => forceB (upd bx (dep + d) (T, cs)) fun bx' => .ok ⟨(d, .box (dep + d) 0) :: fr, stk, bx', rw, dep⟩
       | false => .bad
     | true => .bad
   | none => .bad
def evBuild (τ : Tys) (s : St) (T : TypeId) (parts : Array (Nat × Operand)) : RV :=
 match τ.ti T with
 | some i => match i.td with
   | .struct fs => lay .bad τ s (fun i => nth fs i) parts.toList i.zero fun cs => .ok (.agg cs)
   | .arr _ e => lay .bad τ s (fun i => some (i * τ.sz e, e)) parts.toList i.zero fun cs => .ok (.agg cs)
   | _ => .bad
 | none => .bad
def stepLit (τ : Tys) (T : TypeId) (n : Nat) (parts : Array (Nat × Operand)) (d : Option Tmp) : St → RS
 | ⟨fr, stk, bx, rw, dep⟩ => match τ.td T, d with
   | .slice e, some d => match τ.rk e, τ.ti e, Nat.ble (n * τ.sz e) 16777216, St.has (own0 (dep + d)) ⟨fr, stk, bx, rw, dep⟩ with
     | some k, some i, true, false => lay .bad τ ⟨fr, stk, bx, rw, dep⟩ (fun i => some (i * τ.sz e, e)) parts.toList (flatZeros i.zero n) fun cs =>
       forceR (demoteL cs rw) fun R => forceL (resSL R cs) fun cs' => match mkRow k (chunks (τ.sz e) n cs') with
        | some r => match r.flat, allNew cs' with
          | true, _ => .ok ⟨(d, .own (dep + d)) :: fr, stk, bx, upd R (dep + d) (.own r), dep⟩
          | false, true => .ok ⟨(d, .own (dep + d)) :: fr, stk, bx, upd R (dep + d) (.own r), dep⟩
          | false, false => .ok ⟨(d, .own (dep + d)) :: fr, stk, bx, upd R (dep + d) (.part 0 r), dep⟩
        | none => .bad
     | _, _, _, _ => .bad
   | _, _ => .bad
def retag (t : Tag) : List SV → List SV
 | [] => []
 | .row _ r :: l => .row t r :: retag t l
 | v :: l => v :: retag t l
def evLoad (τ : Tys) (s : St) (T : TypeId) (x : SV) : RV :=
 match x with
 | .box k off => match lk s.boxes k with
   | some (_, cs) => part' τ T cs off
   | none => .bad
 | .pt t cs => forceL (retag t cs) fun cs => part' τ T cs 0
 | .oel k i off => match lk s.rows k with
   | some (.own r) => part' τ T (r.cell .new i.toNat) off
   | some (.part _ r) => part' τ T (r.cell .any i.toNat) off
   | _ => .bad
 | _ => .bad
def stepStore (τ : Tys) (T : TypeId) (x v : Operand) : St → RS
 | ⟨fr, stk, bx, rw, dep⟩ => (St.get ⟨fr, stk, bx, rw, dep⟩ x).force fun p => (getT τ ⟨fr, stk, bx, rw, dep⟩ T v).force fun v =>
   match Nat.beq v.cells.length (τ.sz T), allOne rw v.cells, τ.ti T with
   | true, true, some _ => match p with
     | .box k off => match lk bx k with
       | some (T', cs) => match Nat.ble (off + τ.sz T) cs.length with
         | true => forceB (upd bx k (T', setRange cs off v.cells)) fun bx' => .ok ⟨fr, stk, bx', rw, dep⟩
         | false => .bad
       | none => .bad
     | .oel k i off => forceR (demoteL v.cells rw) fun R => forceL (resSL R v.cells) fun vs => match lk R k with
        | some (.own r) => match r.setE i.toNat (setRange (r.cell .new i.toNat) off vs), allNew vs, Nat.ble (off + τ.sz T) (kdSz r.kd) with
          | some r', true, true => .ok ⟨fr, stk, bx, upd R k (.own r'), dep⟩
          | _, false, true => match r.setE i.toNat (setRange (r.cell .any i.toNat) off vs) with
            | some r' => .ok ⟨fr, stk, bx, upd R k (.part 0 r'), dep⟩
            | none => .bad
          | _, _, _ => .bad
        | some (.part lo r) => match r.setE i.toNat (setRange (r.cell .any i.toNat) off vs), Nat.ble (off + τ.sz T) (kdSz r.kd) with
          | some r', true => match allNew (setRange (r.cell .any i.toNat) off vs) with
            | true => .ok ⟨fr, stk, bx, upd R k (.part (loStep lo i) r'), dep⟩
            | false => match allNew vs with
              | true => .ok ⟨fr, stk, bx, upd R k (.part lo r'), dep⟩
              | false => .ok ⟨fr, stk, bx, upd R k (.part 0 r'), dep⟩
          | _, _ => .bad
        | _ => .bad
     | _ => .bad
   | _, _, _ => .bad
def evField (τ : Tys) (s : St) (S : TypeId) (j : Nat) (x : SV) : RV :=
 match τ.td S with
 | .struct fs => match nth fs j with
   | some (o, F) => match Nat.beq (τ.sz F) 0 with
     | true => .bad
     | false => match x with
       | .box k off => .ok (.box k (off + o))
       | .pt t cs => forceL (cut cs o (τ.sz F)) fun cs' => .ok (.pt t cs')
       | .oel k i off => match lk s.rows k with
         | some (.own _) => .ok (.oel k i (off + o))
         | some (.part _ _) => .ok (.oel k i (off + o))
         | _ => .bad
       | _ => .bad
   | none => .bad
 | _ => .bad
def evPart (τ : Tys) (S : TypeId) (j : Nat) (x : SV) : RV :=
 match τ.td S, x with
 | .struct fs, .agg cs => match nth fs j with
   | some (o, F) => part' τ F cs o
   | none => .bad
 | _, _ => .bad
def evIndexAddr (τ : Tys) (s : St) (T : TypeId) (x i : SV) : RV :=
 match τ.td T, i with
 | .slice e, .int _ i => match x with
   | .row t r => match Nat.beq (τ.sz e) r.sz with
     | true => r.lenK fun n => .ob (0 ≤ i ∧ i < n) (.pt t (r.cell t i.toNat))
     | false => .bad
   | .own k => match lk s.rows k with
     | some (.own r) => match Nat.beq (τ.sz e) r.sz with
       | true => r.lenK fun n => .ob (0 ≤ i ∧ i < n) (.oel k i 0)
       | false => .bad
     | some (.part _ r) => match Nat.beq (τ.sz e) r.sz with
       | true => r.lenK fun n => .ob (0 ≤ i ∧ i < n) (.oel k i 0)
       | false => .bad
     | some (.shared t r) => match Nat.beq (τ.sz e) r.sz with
       | true => r.lenK fun n => .ob (0 ≤ i ∧ i < n) (.pt t (r.cell t i.toNat))
       | false => .bad
     | none => .bad
   | _ => .bad
 | .arr n e, .int _ j => match x with
   | .oel k i0 off => match decide (i0 = 0), off, Nat.beq (τ.sz e) 1, Nat.blt 1 n with
     | true, 0, true, true => match lk s.rows k with
       | some (.own r) => match r with
         | .bools xs => .ob (0 ≤ j ∧ j < n ∧ n ≤ xs.length) (.oel k j 0)
         | _ => .bad
       | _ => .bad
     | _, _, _, _ => .bad
   | .box k off => match Nat.blt 1 n, τ.ti e with
     | true, some _ => .ob (0 ≤ j ∧ j < n) (.box k (off + j.toNat * τ.sz e))
     | _, _ => .bad
   | _ => .bad
 | _, _ => .bad
noncomputable def evIndex (τ : Tys) (T : TypeId) (x i : SV) : RV :=
 match τ.td T, x, i with
 | .str, .str s, .int _ i => .ob (0 ≤ i ∧ i < s.size) (.int .u8 (byteAt s i.toNat))
 | _, _, _ => .bad
def stepSlice (τ : Tys) (T : TypeId) (x : Operand) (lo hi mx : Option Operand) (d : Option Tmp) (s : St) : RS :=
 match mx with
 | some _ => .bad
 | none => (s.raw x).force fun x => match lenOf s.rows x with
   | some n => match bound τ s 0 lo, bound τ s n hi with
     | some l, some h => match τ.td T, x with
       | .str, .str b => .ob (0 ≤ l ∧ l ≤ h ∧ h ≤ n) (putv d (.str (b.extract l.toNat h.toNat)) s)
       | .slice e, .row t r => match Nat.beq (τ.sz e) r.sz with
         | true => .ob (0 ≤ l ∧ l ≤ h ∧ h ≤ n) (putv d (.row t (r.sub l.toNat h.toNat)) s)
         | false => .bad
       | .slice e, .pre t r _ => match Nat.beq (τ.sz e) r.sz with
         | true => .ob (0 ≤ l ∧ l ≤ h ∧ h ≤ r.len) (putv d (.row t (r.sub l.toNat h.toNat)) s)
         | false => .bad
       | .slice e, .own k => match s with
         | ⟨fr, stk, bx, rw, dep⟩ => match demote1 rw k with
           | R => match lk R k with
             | some (.shared t r) => match Nat.beq (τ.sz e) r.sz with
               | true => match stk, lo with
                 | _ :: _, none => .ob (0 ≤ l ∧ l ≤ h ∧ h ≤ n) (putv d (.pre t r h.toNat) ⟨fr, stk, bx, R, dep⟩)
                 | _, _ => .ob (0 ≤ l ∧ l ≤ h ∧ h ≤ n) (putv d (.row t (r.sub l.toNat h.toNat)) ⟨fr, stk, bx, R, dep⟩)
               | false => .bad
             | _ => .bad
       | _, _ => .bad
     | _, _ => .bad
   | none => .bad
def srcOf (R : List (Nat × Ent)) : SV → Option (Tag × Rw)
 | .row t r => some (t, r)
 | .nilS r => some (.new, r)
 | .own k => match lk R k with
   | some e => some e.row
   | none => none
 | _ => none
def tagOk (t : Tag) (r : Rw) : Bool := match r.flat with
 | true => true
 | false => t.isNew
def stepAppend (τ : Tys) (T : TypeId) (x y : Operand) (d : Option Tmp) : St → RS
 | ⟨fr, stk, bx, rw, dep⟩ => match τ.td T, d with
   | .slice e, some d => (getT τ ⟨fr, stk, bx, rw, dep⟩ T x).force fun x => (getT τ ⟨fr, stk, bx, rw, dep⟩ T y).force fun y => match srcOf rw y, τ.rk e with
     | some (t, r2), some kd => match Nat.beq r2.kd kd with
       | true => match x with
         | .nilS r1 => match Nat.beq r1.kd kd, r1.app r2, St.has (own0 (dep + d)) ⟨fr, stk, bx, rw, dep⟩ with
           | true, some r, false => match tagOk t r2 with
             | true => .ob (r2.len * r2.bts ≤ 140737488355328) ⟨(d, .own (dep + d)) :: fr, stk, bx, upd rw (dep + d) (.own r), dep⟩
             | false => .ob (r2.len * r2.bts ≤ 140737488355328) ⟨(d, .own (dep + d)) :: fr, stk, bx, upd rw (dep + d) (.part 0 r), dep⟩
           | _, _, _ => .bad
         | .own k => match lk rw k with
           | some (.own r1) => match Nat.beq r1.kd kd, r1.app r2, tagOk t r2 with
             | true, some r, true => forceF (killF k fr) fun fr' => forceS (killS k stk) fun stk' => forceB (killB k bx) fun bx' =>
               .ob ((r1.len + r2.len) * r2.bts ≤ 140737488355328) ⟨(d, .own k) :: fr', stk', bx', upd rw k (.own r), dep⟩
             | true, some r, false => forceF (killF k fr) fun fr' => forceS (killS k stk) fun stk' => forceB (killB k bx) fun bx' =>
               .ob ((r1.len + r2.len) * r2.bts ≤ 140737488355328) ⟨(d, .own k) :: fr', stk', bx', upd rw k (.part r1.len r), dep⟩
             | _, _, _ => .bad
           | some (.part lo r1) => match Nat.beq r1.kd kd, r1.app r2 with
             | true, some r => forceF (killF k fr) fun fr' => forceS (killS k stk) fun stk' => forceB (killB k bx) fun bx' =>
               .ob ((r1.len + r2.len) * r2.bts ≤ 140737488355328 ∧ lo ≤ r1.len) ⟨(d, .own k) :: fr', stk', bx', upd rw k (.part lo r), dep⟩
             | _, _ => .bad
           | _ => .bad
         | _ => .bad
       | false => .bad
     | _, _ => .bad
   | _, _ => .bad
def bytesOf : List Int → List UInt8
 | [] => []
 | x :: l => UInt8.ofNat x.toNat :: bytesOf l
def evConv (τ : Tys) (s : St) (src dst : TypeId) (x : SV) : RV :=
 match τ.td dst with
 | .int k' => match x, τ.td src with
   | .int _ n, .int _ => .ok (.int k' (k'.wrap n))
   | _, _ => .bad
 | .str => match τ.td src with
   | .str => match x with
     | .str b => .ok (.str b)
     | _ => .bad
   | .slice e => match τ.td e with
     | .int .u8 => match x with
       | .own k => match lk s.rows k with
         | some e => match e.row with
           | (_, .bytes xs) => .ok (.str ⟨(bytesOf xs).toArray⟩)
           | _ => .bad
         | none => .bad
       | .row _ (.bytes xs) => .ok (.str ⟨(bytesOf xs).toArray⟩)
       | _ => .bad
     | _ => .bad
   | _ => .bad
 | _ => .bad
def bytesL (b : ByteArray) : List Int := b.toList.map fun x => (x.toNat : Int)
def stepBytes (τ : Tys) (src dst : TypeId) (x : Operand) (d : Option Tmp) (s : St) : RS := match τ.td dst, τ.td src with
 | .slice e, .str => match τ.td e with
   | .int .u8 => (s.get x).force fun x => match x with
     | .str b => .ob (b.size ≤ 140737488355328) (putv d (.row .new (.bytes (bytesL b))) s)
     | _ => .bad
   | _ => .bad
 | _, _ => .bad
def evCheck (s : St) (x : SV) : RV :=
 match x with
 | .box k off => .ok (.box k off)
 | .pt t cs => .ok (.pt t cs)
 | .oel k i off => match lk s.rows k with
   | some (.own _) => .ok (.oel k i off)
   | some (.part _ _) => .ok (.oel k i off)
   | _ => .bad
 | .clo f a c => .ok (.clo f a c)
 | _ => .bad
def evExtract (x : SV) (j : Nat) : RV :=
 match x with
 | .tup vs => match nth vs j with
   | some v => .ok v
   | none => .bad
 | _ => .bad
def capOk : SV → Bool
 | .agg _ => false
 | .tup _ => false
 | .clo _ _ _ => false
 | _ => true
def firstOk : SV → Bool
 | .agg cs => go cs
 | v => capOk v
where go : List SV → Bool
 | [] => true
 | v :: l => match capOk v with
   | true => go l
   | false => false
def evFunc (fn : Fn) (a c : List SV) : RV :=
 match fn with
 | .func f => match allB firstOk a, allB capOk c with
   | true, true => forceL a fun a => forceL c fun c => .ok (.clo f a c)
   | _, _ => .bad
 | _ => .bad
def evMin (op : Builtin) (x y : SV) : RV :=
 match op, x, y with
 | .min, .int k a, .int _ b => .ok (.int k (if b < a then b else a))
 | .max, .int k a, .int _ b => .ok (.int k (if b > a then b else a))
 | _, _, _ => .bad
def stepMake (τ : Tys) (T : TypeId) (n : Operand) (d : Option Tmp) : St → RS
 | ⟨fr, stk, bx, rw, dep⟩ => match τ.td T, d with
   | .slice e, some d => match τ.rk e, St.get ⟨fr, stk, bx, rw, dep⟩ n, St.has (own0 (dep + d)) ⟨fr, stk, bx, rw, dep⟩ with
     | some kd, .int .i64 n, false => .ob (0 ≤ n ∧ n * kdBytes kd ≤ 140737488355328) ⟨(d, .own (dep + d)) :: fr, stk, bx, upd rw (dep + d) (.own (Rw.zeros kd n.toNat)), dep⟩
     | _, _, _ => .bad
   | _, _ => .bad
def sameOp : Operand → Operand → Bool
 | .tmp a, .tmp b => Nat.beq a b
 | .const (.int .i64 a), .const (.int .i64 b) => decide (a = b)
 | _, _ => false
theorem sameOp_eq {x y : Operand} (h : sameOp x y = true) : x = y := by
 unfold sameOp at h
 split at h
 · rw [Nat.eq_of_beq_eq_true h]
 · rw [of_decide_eq_true h]
 · simp at h
def stepCall (τ : Tys) (C : Ctx) (c : Call) (d : Option Tmp) (s : St) : RS :=
 match c.callee with
 | .builtin .len => match c.args.toList, c.argTypes.toList with
   | [x], [T] => (s.get x).force fun x => match lenOf s.rows x, τ.td T, x with
     | some n, .str, .str _ => .ok (putv d (.int .i64 n) s)
     | some n, .slice _, .row _ _ => .ok (putv d (.int .i64 n) s)
     | some n, .slice _, .own _ => .ok (putv d (.int .i64 n) s)
     | some n, .slice _, .nilS _ => .ok (putv d (.int .i64 n) s)
     | _, _, _ => .bad
   | _, _ => .bad
 | .builtin .append => match c.args.toList, c.argTypes.toList with
   | [x, y], [T, T'] => match Nat.beq T T' with
     | true => stepAppend τ T x y d s
     | false => .bad
   | _, _ => .bad
 | .builtin .min => match c.args.toList with
   | [x, y] => (s.get x).force fun x => (s.get y).force fun y => (evMin .min x y).to d s
   | _ => .bad
 | .builtin .max => match c.args.toList with
   | [x, y] => (s.get x).force fun x => (s.get y).force fun y => (evMin .max x y).to d s
   | _ => .bad
 | .value f => (s.get f).force fun f => match f with
   | .clo g a cs => match C.spec g with
     | some sp => forceL (mapP (resA s) (a ++ getN τ s c.args.toList c.argTypes.toList ++ cs)) fun args => match sp args with
       | .ok v rows => putRes d v rows (fun s' => .ok s') s
       | .ob p v rows => putRes d v rows (fun s' => .ob p s') s
       | .bad => .bad
     | none => .bad
   | _ => .bad
 | _ => .bad
noncomputable def step (τ : Tys) (C : Ctx) (o : Oper) : St → RS
 | ⟨fr, stk, bx, rw, dep⟩ =>
 match o.op with
 | .move x => (RV.ok (rawT τ ⟨fr, stk, bx, rw, dep⟩ o.type x)).to o.dst ⟨fr, stk, bx, rw, dep⟩
 | .assign x => (RV.ok (rawT τ ⟨fr, stk, bx, rw, dep⟩ o.type x)).to o.dst ⟨fr, stk, bx, rw, dep⟩
 | .pick c a b => (St.get ⟨fr, stk, bx, rw, dep⟩ c).force fun c => (St.get ⟨fr, stk, bx, rw, dep⟩ a).force fun a => (St.get ⟨fr, stk, bx, rw, dep⟩ b).force fun b =>
   (evPick c a b).to o.dst ⟨fr, stk, bx, rw, dep⟩
 | .alloc T => stepAlloc τ T o.dst ⟨fr, stk, bx, rw, dep⟩
 | .box T x => stepBox τ T x o.dst ⟨fr, stk, bx, rw, dep⟩
 | .build T ps => (evBuild τ ⟨fr, stk, bx, rw, dep⟩ T ps).to o.dst ⟨fr, stk, bx, rw, dep⟩
 | .buildSlice T n ps => stepLit τ T n ps o.dst ⟨fr, stk, bx, rw, dep⟩
 | .load T x => (St.get ⟨fr, stk, bx, rw, dep⟩ x).force fun x => (evLoad τ ⟨fr, stk, bx, rw, dep⟩ T x).to o.dst ⟨fr, stk, bx, rw, dep⟩
 | .store T x v => match o.dst with
   | none => stepStore τ T x v ⟨fr, stk, bx, rw, dep⟩
   | some _ => .bad
 | .nilCheck x => (St.get ⟨fr, stk, bx, rw, dep⟩ x).force fun x => (evCheck ⟨fr, stk, bx, rw, dep⟩ x).to o.dst ⟨fr, stk, bx, rw, dep⟩
 | .binOp op T x y _ => (St.get ⟨fr, stk, bx, rw, dep⟩ x).force fun x => (St.get ⟨fr, stk, bx, rw, dep⟩ y).force fun y => (evBin τ T op x y).to o.dst ⟨fr, stk, bx, rw, dep⟩
 | .unOp op _ x => (St.get ⟨fr, stk, bx, rw, dep⟩ x).force fun x => (evUn op x).to o.dst ⟨fr, stk, bx, rw, dep⟩
 | .convert a b x => match τ.td b with
   | .slice _ => stepBytes τ a b x o.dst ⟨fr, stk, bx, rw, dep⟩
   | _ => (St.get ⟨fr, stk, bx, rw, dep⟩ x).force fun x => (evConv τ ⟨fr, stk, bx, rw, dep⟩ a b x).to o.dst ⟨fr, stk, bx, rw, dep⟩
 | .makeFunc fn a c => (evFunc fn (getN τ ⟨fr, stk, bx, rw, dep⟩ a.toList []) (getN τ ⟨fr, stk, bx, rw, dep⟩ c.toList [])).to o.dst ⟨fr, stk, bx, rw, dep⟩
 | .makeSlice T n c => match sameOp n c with
   | true => stepMake τ T n o.dst ⟨fr, stk, bx, rw, dep⟩
   | false => .bad
 | .slice T x lo hi mx => stepSlice τ T x lo hi mx o.dst ⟨fr, stk, bx, rw, dep⟩
 | .fieldAddr S x j => (St.get ⟨fr, stk, bx, rw, dep⟩ x).force fun x => (evField τ ⟨fr, stk, bx, rw, dep⟩ S j x).to o.dst ⟨fr, stk, bx, rw, dep⟩
 | .field S x j => (St.get ⟨fr, stk, bx, rw, dep⟩ x).force fun x => (evPart τ S j x).to o.dst ⟨fr, stk, bx, rw, dep⟩
 | .indexAddr T x i => (St.get ⟨fr, stk, bx, rw, dep⟩ x).force fun x => (St.get ⟨fr, stk, bx, rw, dep⟩ i).force fun i => (evIndexAddr τ ⟨fr, stk, bx, rw, dep⟩ T x i).to o.dst ⟨fr, stk, bx, rw, dep⟩
 | .index T x i => (St.get ⟨fr, stk, bx, rw, dep⟩ x).force fun x => (St.get ⟨fr, stk, bx, rw, dep⟩ i).force fun i => (evIndex τ T x i).to o.dst ⟨fr, stk, bx, rw, dep⟩
 | .extract x j => (St.get ⟨fr, stk, bx, rw, dep⟩ x).force fun x => (evExtract x j).to o.dst ⟨fr, stk, bx, rw, dep⟩
 | .call c => stepCall τ C c o.dst ⟨fr, stk, bx, rw, dep⟩
 | _ => .bad
end Go.Proofs.YtjjpakdlkjaigaaGreat

/- A symbolic executor for loaded Go code: its steps on values alone are the machine's. -/
namespace Go.Proofs.YtjjpakdlkjaigaaGreat
open Go.RowKit
def tdOk (d : TypeDesc) : TD → Prop
 | .int k => d = .int k
 | .bool => d = .bool
 | .str => d = .string
 | .slice e => d = .slice e
 | .struct fs => ∃ fa : Array Field, d = .struct fa ∧ ∀ j, nth fs j = (fa[j]?).map fun f => (f.offset, f.type)
 | .arr n e => d = .array n e
 | .other => match d with
   | .struct _ => False
   | .array _ _ => False
   | _ => True
structure TiOk (P : Program) (τ : Tys) (T : TypeId) (i : TI) : Prop where
 flds : ∀ fs, i.td = .struct fs → ∀ j p, nth fs j = some p → ∃ i', τ.ti p.2 = some i'
 elem : ∀ n e, i.td = .arr n e → ∃ i', τ.ti e = some i'
 info : ∃ x z, P.info? T = some x ∧ x.size = i.sz ∧ x.bytes = i.bytes ∧ x.zero = some z ∧ z.cells.size = i.sz ∧ ∀ E R w, L0 (vd0 E R w) i.zero z.cells.toList
 und : ∃ d, P.underlying T = some d ∧ tdOk d i.td
def EqOk (P : Program) (T : TypeId) (sh : List Nat) : Prop := ∀ (E : Env) (R : List (Nat × Ent)) (w : World) (a b : List SV) (us vs : List Value) (e : Bool), eqCells sh a b = some e → L0 (vd1 E R w) a us → L0 (vd1 E R w) b vs →
 (∀ op x y, (eqGuard op T x y (.agg us.toArray) (.agg vs.toArray)).run P w = .ok () w) ∧ (Op.equal T (.agg us.toArray) (.agg vs.toArray)).run P w = .ok e w
structure TysOk (P : Program) (τ : Tys) : Prop where
 ti : ∀ T i, τ.ti T = some i → TiOk P τ T i
 sh : ∀ T sh, τ.sh T = some sh → EqOk P T sh
 rk : ∀ e k, τ.rk e = some k → k < 12 ∧ τ.et k = e ∧ ∃ i, τ.ti e = some i ∧ i.sz = kdSz k ∧ i.bytes = kdBytes k ∧ FitL i.zero ((Rw.zeros k 1).cell .any 0) ∧ ∀ t r, SV.row t r ∉ i.zero
section
variable {P : Program} {τ : Tys} (hτ : TysOk P τ)
include hτ
theorem TysOk.td {T : TypeId} {d : TD} (h : τ.td T = d) (hd : d ≠ .other) : ∃ u, P.underlying T = some u ∧ tdOk u d := by
 unfold Tys.td at h
 split at h
 · rename_i i hi
   subst h
   exact (hτ.ti T i hi).und
 · exact absurd h.symm hd
theorem TysOk.slice {T e : TypeId} (h : τ.td T = .slice e) : P.underlying T = some (.slice e) := by
 obtain ⟨u, hu, hd⟩ := hτ.td h (by simp)
 rw [hu, show u = _ from hd]
theorem TysOk.arr {T e : TypeId} {n : Nat} (h : τ.td T = .arr n e) : P.underlying T = some (.array n e) := by
 obtain ⟨u, hu, hd⟩ := hτ.td h (by simp)
 rw [hu, show u = _ from hd]
theorem TysOk.arrElem {T e : TypeId} {n : Nat} (h : τ.td T = .arr n e) : ∃ i', τ.ti e = some i' := by
 unfold Tys.td at h
 split at h
 · rename_i i hi
   exact (hτ.ti T i hi).elem n e h
 · simp at h
theorem TysOk.szOf {T : TypeId} {i : TI} (h : τ.ti T = some i) (w : World) : (sizeOf T).run P w = .ok (τ.sz T) w := by
 obtain ⟨x, z, hx, hs, _⟩ := (hτ.ti T i h).info
 simp [sizeOf, typeInfo, hx, hs, Tys.sz, h]
theorem TysOk.isAgg {T : TypeId} {i : TI} (h : τ.ti T = some i) (w : World) : (isAgg T).run P w = .ok (τ.agg T) w := by
 obtain ⟨d, hu, hd⟩ := (hτ.ti T i h).und
 simp only [Go.isAgg, Sem.run_bind, run_underlying hu, Result.andThen_ok, Tys.agg, Tys.td, h]
 cases htd : i.td <;> rw [htd] at hd <;> simp only [tdOk] at hd <;> first
  | (subst hd; rfl)
  | (obtain ⟨fa, rfl, _⟩ := hd; rfl)
  | (cases d <;> first | rfl | exact hd.elim)
end
theorem len_mkEmpty (k : Nat) : (mkEmpty k).len = 0 := by unfold mkEmpty; split <;> rfl
theorem vd_ofVal (E : Env) (R : List (Nat × Ent)) (w : World) (v : Value) : vd3 E R w (SV.ofVal v) v := by cases v <;> first | rfl | trivial
section
variable {P : Program} {τ : Tys} {w0 : World} {E : Env} {s : St} {aS : List (Array Value)} {a : Act} {w : World}
theorem cook_vd {R : List (Nat × Ent)} {x : SV} {v : Value} (h : vd3 E R w x v) : vd3 E R w x.cook v := by
 cases x with
 | pre t r n => obtain ⟨A, c, rfl, hn, hd⟩ := h; exact RowDen.pre hn hd
 | _ => exact h
theorem Den.raw (h : Den τ w0 E s (a.tmps :: aS) w) (x : Operand) : vd3 E s.rows w (s.raw x) (a.eval x) := by
 cases x with
 | tmp t =>
   obtain ⟨b, hb, hf⟩ := h.fr 0 s.fr (by simp)
   simp at hb
   subst hb
   exact hf t
 | const v => exact vd_ofVal _ _ _ v
 | func f => exact ⟨[], [], rfl, L0.nil, L0.nil⟩
 | global g => trivial
theorem Den.rawT (h : Den τ w0 E s (a.tmps :: aS) w) (T : TypeId) (x : Operand) : vd3 E s.rows w (rawT τ s T x) (a.eval x) := by
 unfold Go.Proofs.YtjjpakdlkjaigaaGreat.rawT
 split
 · split
   · exact ⟨rfl, len_mkEmpty _⟩
   · trivial
 · exact h.raw x
theorem Den.get (h : Den τ w0 E s (a.tmps :: aS) w) (x : Operand) : vd3 E s.rows w (s.get x) (a.eval x) := by
 cases x with
 | tmp t =>
   obtain ⟨b, hb, hf⟩ := h.fr 0 s.fr (by simp)
   simp at hb
   subst hb
   exact cook_vd (hf t)
 | const v => exact vd_ofVal _ _ _ v
 | func f => exact ⟨[], [], rfl, L0.nil, L0.nil⟩
 | global g => trivial
theorem Den.getT (h : Den τ w0 E s (a.tmps :: aS) w) (T : TypeId) (x : Operand) : vd3 E s.rows w (getT τ s T x) (a.eval x) := by
 unfold Go.Proofs.YtjjpakdlkjaigaaGreat.getT
 split
 · split
   · exact ⟨rfl, len_mkEmpty _⟩
   · trivial
 · exact h.get x
end
theorem sameK_eq {k k' : IntKind} (h : sameK k k' = true) : k = k' := by cases k <;> cases k' <;> first | rfl | simp [sameK] at h
theorem asBool_vd {E : Env} {R : List (Nat × Ent)} {w : World} {x : SV} {v : Value} {b : Bool} (h : x.asBool = some b) (hv : vd3 E R w x v) : v = .bool b := by
 cases x <;> simp [SV.asBool] at h <;> (subst h; exact hv)
def RV.good (r : RV) (p : SV → Prop) : Prop := match r with
 | .ok x => p x
 | .ob q x => q → p x
 | .bad => True
def Gives {P : Program} (w : World) (c : Sem Value) (x : SV) (E : Env) (R : List (Nat × Ent)) : Prop := ∃ z, c.run P w = .ok z w ∧ vd3 E R w x z
theorem evInt_ok {P : Program} {w : World} {E : Env} {R : List (Nat × Ent)} {op : BinOp} {k : IntKind} {a b : Int} (T : TypeId) :
  (evInt op k a b).good fun x => Gives (P := P) w (binOp op T (.int k a) (.int k b)) x E R := by
 cases op <;> simp only [evInt, RV.good, Gives]
 · exact ⟨_, by rw [binOp_add]; rfl, rfl⟩
 · exact ⟨_, by rw [binOp_sub]; rfl, rfl⟩
 · exact ⟨_, by rw [binOp_mul]; rfl, rfl⟩
 · intro h; exact ⟨_, by rw [binOp_quo, Op.intDiv, if_neg h]; rfl, rfl⟩
 · intro h; exact ⟨_, by rw [binOp_rem, Op.intDiv, if_neg h]; rfl, rfl⟩
 · exact ⟨_, by rw [binOp_and]; rfl, rfl⟩
 · exact ⟨_, by rw [binOp_or]; rfl, rfl⟩
 · exact ⟨_, by rw [binOp_xor]; rfl, rfl⟩
 · exact ⟨_, by rw [binOp_andNot]; rfl, rfl⟩
 · exact ⟨_, by rw [binOp_eql]; rfl, by simp only [vd3, vd2, vd1, vd0]; rfl⟩
 · exact ⟨_, by rw [binOp_neq]; rfl, by simp only [vd3, vd2, vd1, vd0]; rfl⟩
 · exact ⟨_, by rw [binOp_lss]; rfl, rfl⟩
 · exact ⟨_, by rw [binOp_leq]; rfl, rfl⟩
 · exact ⟨_, by rw [binOp_gtr]; rfl, rfl⟩
 · exact ⟨_, by rw [binOp_geq]; rfl, rfl⟩
theorem evBin_ok {P : Program} {τ : Tys} (hτ : TysOk P τ) {w : World} {E : Env} {R : List (Nat × Ent)} {op : BinOp} (T : TypeId) (px py : Operand) {x y : SV} {u v : Value} (hx : vd3 E R w x u) (hy : vd3 E R w y v) :
  (evBin τ T op x y).good fun z => Gives (P := P) w (do eqGuard op T px py u v; binOp op T u v) z E R := by
 unfold evBin
 split
 · -- two whole numbers
   rename_i k a k' b
   obtain rfl : u = .int k a := hx
   obtain rfl : v = .int k' b := hy
   simp only [eqGuard_at_int]
   split
   · intro h
     refine ⟨_, by simp only [Sem.run_bind, Sem.run_pure, Result.andThen_ok]; rw [binOp_shl, shift_shl k k' a b h.1 h.2]; rfl, rfl⟩
   · intro h
     refine ⟨_, by simp only [Sem.run_bind, Sem.run_pure, Result.andThen_ok]; rw [binOp_shr, shift_shr k k' a b h.1 h.2]; rfl, rfl⟩
   · split
     · rename_i hk
       obtain rfl := sameK_eq hk
       have := evInt_ok (P := P) (w := w) (E := E) (R := R) (op := op) (k := k) (a := a) (b := b) T
       cases he : evInt op k a b with
       | bad => trivial
       | ok z => rw [he] at this; obtain ⟨z', h1, h2⟩ := this; exact ⟨z', by simpa using h1, h2⟩
       | ob q z => rw [he] at this; intro hq; obtain ⟨z', h1, h2⟩ := this hq; exact ⟨z', by simpa using h1, h2⟩
     · trivial
 · -- two strings
   rename_i a b
   obtain rfl : u = .string a := hx
   obtain rfl : v = .string b := hy
   simp only [eqGuard_at_string]
   split
   · intro h
     refine ⟨.string (a ++ b), ?_, rfl⟩
     have : ¬ (((a.size + b.size : Nat) : Int) > IntKind.i64.max) := by rw [IntKind.max_i64]; omega
     simp only [Sem.run_bind, Sem.run_pure, Result.andThen_ok, binOp, Op.stringOp, if_neg this]
   · exact ⟨_, by simp only [Sem.run_bind, Sem.run_pure, Result.andThen_ok, binOp, Op.stringOp], rfl⟩
   · exact ⟨_, by simp only [Sem.run_bind, Sem.run_pure, Result.andThen_ok, binOp, Op.stringOp], rfl⟩
   · trivial
 · -- two structs
   rename_i a b
   obtain ⟨us, rfl, hu⟩ := hx
   obtain ⟨vs, rfl, hv⟩ := hy
   split
   · rename_i sh hsh
     split
     · rename_i e he
       obtain ⟨h1, h2⟩ := hτ.sh T sh hsh E R w a b us vs e he hu hv
       exact ⟨_, by simp only [Sem.run_bind, h1, Result.andThen_ok, binOp, h2, Sem.run_pure], rfl⟩
     · rename_i e he
       obtain ⟨h1, h2⟩ := hτ.sh T sh hsh E R w a b us vs e he hu hv
       exact ⟨_, by simp only [Sem.run_bind, h1, Result.andThen_ok, binOp, h2, Sem.run_pure], rfl⟩
     · trivial
   · trivial
 · -- two bools
   split
   · rename_i a b htd ha hb
     obtain rfl := asBool_vd ha hx
     obtain rfl := asBool_vd hb hy
     obtain ⟨d, hd, hd'⟩ := hτ.td htd (by simp)
     rw [show d = .bool from hd'] at hd
     refine ⟨_, by simp only [eqGuard_at_bool, Sem.run_bind, Sem.run_pure, Result.andThen_ok, run_eql_bool w T a b hd], rfl⟩
   · rename_i a b htd ha hb
     obtain rfl := asBool_vd ha hx
     obtain rfl := asBool_vd hb hy
     obtain ⟨d, hd, hd'⟩ := hτ.td htd (by simp)
     rw [show d = .bool from hd'] at hd
     refine ⟨_, by simp only [eqGuard_at_bool, Sem.run_bind, Sem.run_pure, Result.andThen_ok, run_neq_bool w T a b hd], rfl⟩
   · trivial
theorem evUn_ok {P : Program} {w : World} {E : Env} {R : List (Nat × Ent)} {op : UnOp} {x : SV} {u : Value} (hx : vd3 E R w x u) : (evUn op x).good fun z => Gives (P := P) w (Op.unary op u) z E R := by
 unfold evUn
 split
 · obtain rfl : u = _ := hx; exact ⟨_, rfl, rfl⟩
 · obtain rfl : u = _ := hx; exact ⟨_, rfl, rfl⟩
 · obtain rfl : u = _ := hx; exact ⟨_, rfl, rfl⟩
 · obtain rfl : u = _ := hx; exact ⟨_, rfl, rfl⟩
 · trivial
theorem evPick_ok {w : World} {E : Env} {R : List (Nat × Ent)} {c x y : SV} {b u v : Value} (hc : vd3 E R w c b) (hx : vd3 E R w x u) (hy : vd3 E R w y v) :
  (evPick c x y).good fun z => ∃ t, b = .bool t ∧ vd3 E R w z (if t then u else v) := by
 unfold evPick
 split
 · exact ⟨true, hc, hx⟩
 · exact ⟨false, hc, hy⟩
 · rename_i c
   split
   · rename_i p q hp hq
     obtain rfl := asBool_vd hp hx
     obtain rfl := asBool_vd hq hy
     refine ⟨c, hc, ?_⟩
     cases c <;> rfl
   · trivial
 · trivial
theorem nth_eq {α : Type} (l : List α) (n : Nat) : nth l n = l[n]? := by
 induction l generalizing n with
 | nil => rfl
 | cons x l ih => cases n with
   | zero => rfl
   | succ n => simpa [nth] using ih n
theorem vd_of_vd1 {E : Env} {R : List (Nat × Ent)} {w : World} {x : SV} {u : Value} (h : vd1 E R w x u) : vd3 E R w x u := by
 cases x <;> first | exact h | exact h.elim
theorem part_ok {P : Program} {τ : Tys} (hτ : TysOk P τ) {w : World} {E : Env} {R : List (Nat × Ent)} (T : TypeId) (cs : List SV) (us : List Value) (off : Nat) (h : L0 (vd1 E R w) cs us) :
  (part' τ T cs off).good fun z => Gives (P := P) w (part T us.toArray off) z E R := by
 unfold part'
 split
 · trivial
 rename_i i hi
 split
 · rename_i hag
   split
   · rename_i hle
     rw [forceL_eq]
     refine ⟨.agg (cut us off (τ.sz T)).toArray, ?_, ⟨_, rfl, (h.drop off).take _⟩⟩
     have hle' := Nat.le_of_ble_eq_true hle
     simp only [part, Sem.run_bind, hτ.isAgg hi, Result.andThen_ok, hag, if_true, hτ.szOf hi, Sem.run_pure, cut]
     congr 2
     apply Array.ext'
     simp [List.extract_eq_take_drop]
   · trivial
 · rename_i hag
   split
   · rename_i v hv
     rw [nth_eq] at hv
     obtain ⟨u, hu, hp⟩ := h.2 off v hv
     refine ⟨u, ?_, vd_of_vd1 hp⟩
     simp [part, hτ.isAgg hi, hag, hu]
   · trivial
end Go.Proofs.YtjjpakdlkjaigaaGreat

/- A symbolic executor for loaded Go code: its steps in memory are the machine's. -/
namespace Go.Proofs.YtjjpakdlkjaigaaGreat
open Go.RowKit
set_option maxRecDepth 20000
theorem lk_upd {α : Type} (l : List (Nat × α)) (k : Nat) (v : α) (t : Nat) : lk (upd l k v) t = if t = k then some v else lk l t := by
 induction l with
 | nil =>
   simp only [upd, lk]
   by_cases h : t = k
   · subst h; simp [show Nat.beq t t = true from Nat.beq_refl t]
   · have : Nat.beq k t = false := by
      cases hb : Nat.beq k t with
      | false => rfl
      | true => exact absurd (Nat.eq_of_beq_eq_true hb).symm h
     simp [h, this]
 | cons x l ih =>
   obtain ⟨j, u⟩ := x
   simp only [upd]
   split
   · rename_i hb
     obtain rfl := Nat.eq_of_beq_eq_true hb
     simp only [lk]
     by_cases h : t = j
     · subst h; simp [show Nat.beq t t = true from Nat.beq_refl t]
     · have : Nat.beq j t = false := by
        cases hb' : Nat.beq j t with
        | false => rfl
        | true => exact absurd (Nat.eq_of_beq_eq_true hb').symm h
       simp [h, this]
   · rename_i hb
     simp only [lk, ih]
     by_cases h : t = k
     · subst h
       simp [hb]
     · simp [h]
section
variable {P : Program} {τ : Tys} {w0 : World} {E : Env} {aS : List (Array Value)} {a : Act} {w : World}
variable {k lo : Nat} {r : Rw} {s : St} {bs : List (Array Value)}
variable {fr : List (Nat × SV)} {stk : List (List (Nat × SV))} {bx : List (Nat × (TypeId × List SV))} {rw' : List (Nat × Ent)} {dep : Nat}
theorem Den.put {x : SV} {v : Value} {d : Option Tmp} (h : Den τ w0 E ⟨fr, stk, bx, rw', dep⟩ (a.tmps :: aS) w) (hx : vd3 E rw' w x v) (hd : ∀ t, d = some t → t < a.tmps.size) :
  Den τ w0 E (putv d x ⟨fr, stk, bx, rw', dep⟩) ((a.put d v).tmps :: aS) w := by
 cases d with
 | none => exact h
 | some d =>
   refine ⟨h.below, h.bM, h.Mh, h.owb, ?_, h.box, h.own, h.bb, h.br, h.rr⟩
   intro i f hf
   cases i with
   | zero =>
     simp [putv] at hf
     subst hf
     obtain ⟨b, hb, hfr⟩ := h.fr 0 fr (by simp)
     simp at hb
     subst hb
     exact ⟨_, by simp, FrD.put hfr hx (hd d rfl)⟩
   | succ i =>
     obtain ⟨b, hb, hfr⟩ := h.fr (i + 1) f hf
     exact ⟨b, by simpa using hb, hfr⟩
structure Shift (E E' : Env) (s s' : St) (w' : World) : Prop where
 own : ∀ k, s.has (own0 k) = true → E'.hs k = E.hs k ∧ entLike w' E' (E.hs k) (lk s.rows k) (lk s'.rows k)
 box : ∀ k, s.has (box0 k) = true → E'.bs k = E.bs k
theorem stkHas_of_mem {p : SV → Bool} {f : List (Nat × SV)} (hF : frHas p f = true) : ∀ l : List (List (Nat × SV)), f ∈ l → stkHas p l = true
 | [], hm => by simp at hm
 | g :: l, hm => by
   simp only [stkHas]
   rcases List.mem_cons.1 hm with rfl | hm
   · rw [hF]
   · split
     · rfl
     · exact stkHas_of_mem hF l hm
theorem boxesHas_of_lk {p : SV → Bool} {k : Nat} {T : TypeId} {cs : List SV} (hc : anyL (deep1 p) cs = true) : ∀ l : List (Nat × (TypeId × List SV)), lk l k = some (T, cs) → boxesHas p l = true
 | [], hk => by simp [lk] at hk
 | (j, (T', cs')) :: l, hk => by
   simp only [lk] at hk
   simp only [boxesHas]
   split at hk
   · simp at hk
     obtain ⟨rfl, rfl⟩ := hk
     rw [hc]
   · split
     · rfl
     · exact boxesHas_of_lk hc l hk
theorem has_fr {s : St} {p : SV → Bool} (hj : p .junk = false) {i : Nat} {f : List (Nat × SV)} (hf : (s.fr :: s.stk)[i]? = some f) {t : Nat} (h : deep3 p (lkv f t) = true) : s.has p = true := by
 have hF : frHas p f = true := by
  cases hb : frHas p f with
  | true => rfl
  | false => rw [lkv_junk_of_has hb t hj] at h; exact absurd h (by simp)
 unfold St.has
 cases i with
 | zero => simp at hf; subst hf; rw [hF]
 | succ i =>
   have := stkHas_of_mem hF s.stk (List.mem_of_getElem? (by simpa using hf))
   split
   · rfl
   · rw [this]
theorem has_box {s : St} {p : SV → Bool} {k : Nat} {T : TypeId} {cs : List SV} (hk : lk s.boxes k = some (T, cs)) {x : SV} (hx : x ∈ cs) (h : deep1 p x = true) : s.has p = true := by
 have := boxesHas_of_lk (anyL_of_mem hx h) s.boxes hk
 unfold St.has
 split
 · rfl
 · split
   · rfl
   · exact this
theorem Shift.names {E E' : Env} {s s' : St} {w' : World} (h : Shift E E' s s' w') {i : Nat} {f : List (Nat × SV)} (hf : (s.fr :: s.stk)[i]? = some f) (t : Nat) : Names E E' s.rows s'.rows w' (lkv f t) :=
 ⟨fun k hk => h.own k (has_fr rfl hf hk), fun k hk => h.box k (has_fr rfl hf hk)⟩
theorem Shift.frD {E E' : Env} {s s' : St} {w w' : World} (h : Shift E E' s s' w') (hk : Keeps E E' w w') {i : Nat} {f : List (Nat × SV)} (hf : (s.fr :: s.stk)[i]? = some f) {b : Array Value} (hd : FrD E s.rows w f b) : FrD E' s'.rows w' f b :=
 hd.keeps hk fun t => h.names hf t
theorem Shift.cells {E E' : Env} {s s' : St} {w w' : World} (h : Shift E E' s s' w') (hk : Keeps E E' w w') {k : Nat} {T : TypeId} {cs : List SV} (hb : lk s.boxes k = some (T, cs)) {us : List Value} (hd : L0 (vd1 E s.rows w) cs us) : L0 (vd1 E' s'.rows w') cs us :=
 hd.mono fun x u hx hp => vd1.keeps hk (fun j hj => h.own j (has_box hb hx hj)) (fun j hj => h.box j (has_box hb hx hj)) hp
theorem OwnD.keeps {E E' : Env} {w w' : World} {k lo : Nat} {r : Rw} (h : OwnD τ E w k lo r) (hk : Keeps E E' w w') (hh : E'.hs k = E.hs k) (hM : E'.M = E.M) (how : ∀ g, (E.hs k).ownBlock = some g → E'.ow g)
  (hb : ∀ g, (E.hs k).ownBlock = some g → w'.heap[g]? = w.heap[g]?) : OwnD τ E' w' k lo r := by
 obtain ⟨us, hrow, hc⟩ := h.row
 refine ⟨by rw [hh]; exact how, h.fits, us, ?_, fun i j x hi hx => ?_⟩
 · rw [hh, hM]
   refine ⟨hrow.1, ?_⟩
   rcases hrow.2 with h1 | ⟨g, cap, cur, hv, hg, hheap, h2⟩
   · exact .inl h1
   · exact .inr ⟨g, cap, cur, hv, hg, by rw [hb g (by rw [hv]; rfl)]; exact hheap, h2⟩
 · obtain ⟨u, hu, hd⟩ := hc i j x hi hx
   exact ⟨u, hu, cd1.mono hd (hk.F _)⟩
theorem OwnD.lt (h : OwnD τ E w k lo r) (hE : ∀ g, E.ow g → E.base ≤ g ∧ g < w.heap.size) {g : Nat} (hg : (E.hs k).ownBlock = some g) : g < w.heap.size := (hE g (h.ow g hg)).2
theorem Den.move {s s' : St} {E' : Env} {w' : World} {bs : List (Array Value)} (h : Den τ w0 E s bs w) (hk : Keeps E E' w w') (hb : E'.base = E.base) (hw : Below E.base w w') (hs : Shift E E' s s' w') (hfr : s'.fr = s.fr) (hst : s'.stk = s.stk)
  (how : ∀ g, E'.ow g → E'.base ≤ g ∧ g < w'.heap.size) (hbox : ∀ k T cs, lk s'.boxes k = some (T, cs) → BoxD E' s'.rows w' k T cs)
  (hown : ∀ k e lo r, lk s'.rows k = some e → e.mine = some (lo, r) → OwnD τ E' w' k lo r)
  (bb : ∀ k k' b b', lk s'.boxes k = some b → lk s'.boxes k' = some b' → k ≠ k' → E'.bs k ≠ E'.bs k')
  (br : ∀ k k' b e m, lk s'.boxes k = some b → lk s'.rows k' = some e → e.mine = some m → (E'.hs k').ownBlock ≠ some (E'.bs k))
  (rr : ∀ k k' e e' m m' g, lk s'.rows k = some e → lk s'.rows k' = some e' → e.mine = some m → e'.mine = some m' → k ≠ k' → (E'.hs k).ownBlock = some g → (E'.hs k').ownBlock ≠ some g) : Den τ w0 E' s' bs w' := by
 refine ⟨?_, by rw [hb, hk.M]; exact h.bM, by rw [hk.M]; exact Nat.le_trans h.Mh hk.size, how, ?_, hbox, hown, bb, br, rr⟩
 · rw [hb]; exact h.below.trans hw
 · intro i f hf
   rw [hfr, hst] at hf
   obtain ⟨b, hb, hd⟩ := h.fr i f hf
   exact ⟨b, hb, hs.frD hk hf hd⟩
theorem below_of_alloc (h : Den τ w0 E s bs w) (o : Obj) : Below E.base w (w.alloc o) := (Below.refl _ _).alloc (Nat.le_trans h.bM h.Mh) o
theorem Den.newBox (h : Den τ w0 E ⟨fr, stk, bx, rw', dep⟩ aS w) (k : Nat) (hno : St.has (box0 k) ⟨fr, stk, bx, rw', dep⟩ = false) (T : TypeId) (cs : List SV) (us : List Value)
  (hc : ∀ E' : Env, E'.hs = E.hs → E'.M = E.M → (∀ j, j ≠ k → E'.bs j = E.bs j) → (∀ g, E'.ow g → E.ow g ∨ w.heap.size ≤ g) → L0 (vd1 E' rw' (w.alloc (.cells us.toArray T))) cs us) :
  ∃ E', E'.base = E.base ∧ E'.M = E.M ∧ E'.bs k = w.heap.size ∧ Den τ w0 E' ⟨fr, stk, upd bx k (T, cs), rw', dep⟩ aS (w.alloc (.cells us.toArray T)) := by
 let E' : Env := { E with bs := fun j => if j = k then w.heap.size else E.bs j, ow := fun g => E.ow g ∨ g = w.heap.size }
 have hlt : ∀ j T' cs', lk bx j = some (T', cs') → E.bs j < w.heap.size := fun j T' cs' hj => (h.owb _ (h.box j T' cs' hj).ow).2
 have hk : Keeps E E' w (w.alloc (.cells us.toArray T)) := ⟨rfl, by simp, fun g _ hg => Below.heap_alloc w _ g hg, fun g hg => hg.imp id (fun e => by omega)⟩
 have hs : Shift E E' ⟨fr, stk, bx, rw', dep⟩ ⟨fr, stk, upd bx k (T, cs), rw', dep⟩ (w.alloc (.cells us.toArray T)) := by
  refine ⟨fun j _ => ⟨rfl, entLike.refl _ _ _ _⟩, fun j hj => ?_⟩
  have : j ≠ k := fun e => by subst e; rw [hno] at hj; exact absurd hj (by simp)
  simp [E', this]
 have hbs : ∀ j, j ≠ k → E'.bs j = E.bs j := fun j hj => by simp [E', hj]
 refine ⟨E', rfl, rfl, by simp [E'], h.move hk rfl (below_of_alloc h _) hs rfl rfl ?_ ?_ ?_ ?_ ?_ ?_⟩
 · rintro g (hg | rfl)
   · have := h.owb g hg
     exact ⟨this.1, by simp; omega⟩
   · exact ⟨Nat.le_trans h.bM h.Mh, by simp⟩
 · intro j T' cs' hj
   simp only [lk_upd] at hj
   split at hj
   · rename_i e
     subst e
     simp at hj
     obtain ⟨rfl, rfl⟩ := hj
     refine ⟨.inr (by simp [E']), us, ?_, hc E' rfl rfl hbs fun g hg => hg.imp id (fun e => by omega)⟩
     simp only [E', if_true]
     exact heap_alloc_new w _
   · rename_i e
     obtain ⟨h1, us', h2, h3⟩ := h.box j T' cs' hj
     refine ⟨?_, us', ?_, hs.cells hk hj h3⟩
     · rw [hbs j e]; exact .inl h1
     · rw [hbs j e, Below.heap_alloc w _ _ (hlt j T' cs' hj)]; exact h2
 · intro j e lo r hj hm
   exact (h.own j e lo r hj hm).keeps hk rfl rfl (fun g hg => .inl ((h.own j e lo r hj hm).ow g hg)) fun g hg => Below.heap_alloc w _ g ((h.own j e lo r hj hm).lt h.owb hg)
 · intro j j' b b' hj hj' hne
   simp only [lk_upd] at hj hj'
   split at hj <;> split at hj'
   · omega
   · rename_i e e'
     rw [hbs j' e']
     have := hlt j' b'.1 b'.2 hj'
     subst e
     simp only [E', if_true]
     omega
   · rename_i e e'
     rw [hbs j e]
     have := hlt j b.1 b.2 hj
     subst e'
     simp only [E', if_true]
     omega
   · rename_i e e'
     rw [hbs j e, hbs j' e']
     exact h.bb j j' b b' hj hj' hne
 · intro j j' b e m hj hj' hm
   simp only [lk_upd] at hj
   split at hj
   · rename_i e'
     subst e'
     intro hg
     have := (h.own j' e m.1 m.2 hj' hm).lt h.owb hg
     simp [E'] at this
   · rename_i e'
     rw [hbs j e']
     exact h.br j j' b e m hj hj' hm
 · exact h.rr
theorem setRange_eq {α : Type} (vs : List α) : ∀ (cs : List α) (off : Nat), off + vs.length ≤ cs.length → setRange cs off vs = cs.take off ++ vs ++ cs.drop (off + vs.length) := by
 induction vs with
 | nil => intro cs off h; cases cs <;> simp [setRange]
 | cons v vs ih =>
   intro cs off h
   induction cs generalizing off with
   | nil => simp at h
   | cons c cs ihc =>
     cases off with
     | zero =>
       simp only [setRange]
       rw [ih cs 0 (by simpa using h)]
       simp
     | succ off =>
       simp only [setRange]
       rw [ihc off (by simp at h ⊢; omega)]
       simp [show off + 1 + (vs.length + 1) = (off + (vs.length + 1)) + 1 by omega]
theorem setRange_length {α : Type} (vs cs : List α) (off : Nat) (h : off + vs.length ≤ cs.length) : (setRange cs off vs).length = cs.length := by
 rw [setRange_eq vs cs off h]
 simp
 omega
theorem L0.setRange {p : SV → Value → Prop} {cs vs : List SV} {us ws : List Value} (h : L0 p cs us) (hv : L0 p vs ws) (off : Nat) (hl : off + vs.length ≤ cs.length) :
  L0 p (setRange cs off vs) (us.take off ++ ws ++ us.drop (off + ws.length)) := by
 rw [setRange_eq vs cs off hl, ← hv.1]
 exact ((h.take off).append hv).append (h.drop _)
theorem vd1_one {E : Env} {R : List (Nat × Ent)} {w : World} {x : SV} {u : Value} (hR : ∀ k e m, lk R k = some e → e.mine = some m → (E.hs k).oneCell' = true) (h : vd1 E R w x u) (ho : oneOk R x = true) : u.oneCell' = true := by
 cases x with
 | row t r => obtain ⟨_, A, c, rfl, _⟩ := h; rfl
 | nilS r => obtain ⟨rfl, _⟩ := h; rfl
 | pre t r n => obtain ⟨A, c, rfl, _⟩ := h; rfl
 | own k =>
   simp only [oneOk] at ho
   simp only [vd1, vd0] at h
   split at ho
   · rename_i e he
     rw [he] at h
     cases e with
     | own r => rw [show u = _ from h]; exact hR k _ _ he rfl
     | part lo r => rw [show u = _ from h]; exact hR k _ _ he rfl
     | shared t r => obtain ⟨_, A, c, rfl, _⟩ := h; rfl
   · simp at ho
 | box k off => obtain rfl : u = _ := h; rfl
 | pt t cs => obtain ⟨ad, rfl, _⟩ := h; rfl
 | oel k i off =>
   simp only [oneOk] at ho
   simp only [vd1, vd0] at h
   split at ho
   · rename_i r he; rw [he] at h; obtain ⟨g, n, c, _, _, _, rfl⟩ := h; rfl
   · rename_i lo r he; rw [he] at h; obtain ⟨g, n, c, _, _, _, rfl⟩ := h; rfl
   · simp at ho
 | clo f a c => obtain ⟨us, vs, rfl, _⟩ := h; rfl
 | junk => simp [oneOk] at ho
 | agg cs => simp [oneOk] at ho
 | tup vs => simp [oneOk] at ho
 | _ => obtain rfl : u = _ := h; rfl
theorem allOne_mem {R : List (Nat × Ent)} {l : List SV} (h : allOne R l = true) {x : SV} (hx : x ∈ l) : oneOk R x = true := by
 induction l with
 | nil => simp at hx
 | cons y l ih =>
   simp only [allOne] at h
   split at h
   · rcases List.mem_cons.1 hx with rfl | hx
     · assumption
     · exact ih h hx
   · simp at h
theorem L0.one {p : SV → Value → Prop} {cs : List SV} {us : List Value} (h : L0 p cs us) (hp : ∀ x u, x ∈ cs → p x u → u.oneCell' = true) : ∀ u ∈ us, u.oneCell' = true := by
 intro u hu
 obtain ⟨j, hj, rfl⟩ := List.getElem_of_mem hu
 obtain ⟨x, hx⟩ : ∃ x, cs[j]? = some x := ⟨cs[j]'(by rw [h.1]; exact hj), List.getElem?_eq_getElem _⟩
 obtain ⟨u', hu', hd⟩ := h.2 j x hx
 rw [List.getElem?_eq_getElem hj] at hu'
 injection hu' with hu'
 rw [hu']
 exact hp x _ (List.mem_of_getElem? hx) hd
theorem OwnD.one (h : OwnD τ E w k lo r) : (E.hs k).oneCell' = true := by
 obtain ⟨us, hrow, _⟩ := h.row
 rcases hrow.2 with ⟨hv, _⟩ | ⟨g, cap, cur, hv, _⟩ <;> rw [hv] <;> rfl
theorem Den.hs_one (h : Den τ w0 E s bs w) : ∀ k e m, lk s.rows k = some e → e.mine = some m → (E.hs k).oneCell' = true := fun k e m hk hm => (h.own k e m.1 m.2 hk hm).one
theorem keeps_setRow (h : Den τ w0 E s bs w) {g : Nat} (hg : E.ow g) (cs : Array Value) : Keeps E E w (w.setRow g cs) :=
 ⟨rfl, by simp, fun g' hg' _ => setRow_other w g g' cs (fun e => hg' (e ▸ hg)), fun _ h => .inl h⟩
theorem below_setRow (h : Den τ w0 E s bs w) {g : Nat} (hg : E.ow g) (cs : Array Value) : Below E.base w (w.setRow g cs) :=
 ⟨rfl, rfl, rfl, by simp, fun k hk => setRow_other w g k cs (fun e => by have := (h.owb g hg).1; omega)⟩
theorem Shift.refl (E : Env) (s s' : St) (w' : World) (hr : s'.rows = s.rows) : Shift E E s s' w' := ⟨fun k _ => ⟨rfl, by rw [hr]; exact entLike.refl _ _ _ _⟩, fun _ _ => rfl⟩
theorem Den.setBox (h : Den τ w0 E ⟨fr, stk, bx, rw', dep⟩ aS w) {k : Nat} {T : TypeId} {cs : List SV} (hb : lk bx k = some (T, cs)) {off : Nat} {vs : List SV} {us : List Value} (hl : off + vs.length ≤ cs.length) (hv : L0 (vd1 E rw' w) vs us) :
  ∃ cur : Array Value, w.heap[E.bs k]? = some (.cells cur T (0, 0)) ∧ off + us.length ≤ cur.size ∧
   Den τ w0 E ⟨fr, stk, upd bx k (T, setRange cs off vs), rw', dep⟩ aS (w.setRow (E.bs k) (cur.toList.take off ++ us ++ cur.toList.drop (off + us.length)).toArray) := by
 obtain ⟨how, us0, hheap, hcs⟩ := h.box k T cs hb
 refine ⟨us0.toArray, hheap, by rw [← hv.1]; simpa [← hcs.1] using hl, ?_⟩
 have hk := keeps_setRow h how (us0.take off ++ us ++ us0.drop (off + us.length)).toArray
 have hs := Shift.refl E ⟨fr, stk, bx, rw', dep⟩ ⟨fr, stk, upd bx k (T, setRange cs off vs), rw', dep⟩ (w.setRow (E.bs k) (us0.take off ++ us ++ us0.drop (off + us.length)).toArray) rfl
 refine h.move hk rfl (below_setRow h how _) hs rfl rfl ?_ ?_ ?_ ?_ ?_ h.rr
 · intro g hg; simpa using h.owb g hg
 · intro j T' cs' hj
   simp only [lk_upd] at hj
   split at hj
   · rename_i e
     subst e
     simp at hj
     obtain ⟨rfl, rfl⟩ := hj
     refine ⟨how, us0.take off ++ us ++ us0.drop (off + us.length), setRow_heap w _ _ _ _ _ hheap, ?_⟩
     have hv' : L0 (vd1 E rw' (w.setRow (E.bs j) (us0.take off ++ us ++ us0.drop (off + us.length)).toArray)) vs us := hv.mono fun x u _ hp => vd1.keeps hk (fun _ _ => ⟨rfl, entLike.refl _ _ _ _⟩) (fun _ _ => rfl) hp
     have hc' := hs.cells hk hb hcs
     exact hc'.setRange hv' off hl
   · rename_i e
     obtain ⟨h1, us', h2, h3⟩ := h.box j T' cs' hj
     refine ⟨h1, us', ?_, hs.cells hk hj h3⟩
     rw [setRow_other w _ _ _ (h.bb j k _ _ hj hb e)]
     exact h2
 · intro j e lo r hj hm
   refine (h.own j e lo r hj hm).keeps hk rfl rfl (h.own j e lo r hj hm).ow fun g hg => setRow_other w _ _ _ ?_
   rintro rfl
   exact h.br k j _ e _ hb hj hm hg
 · intro j j' b b' hj hj' hne
   have key : ∀ i c, lk (upd bx k (T, setRange cs off vs)) i = some c → ∃ c', lk bx i = some c' := by
    intro i c hi
    rw [lk_upd] at hi
    split at hi
    · rename_i e; subst e; exact ⟨_, hb⟩
    · exact ⟨_, hi⟩
   obtain ⟨c, hc⟩ := key j b hj
   obtain ⟨c', hc'⟩ := key j' b' hj'
   exact h.bb j j' c c' hc hc' hne
 · intro j j' b e m hj hj' hm
   have : ∃ c', lk bx j = some c' := by
    simp only [lk_upd] at hj
    split at hj
    · rename_i e; subst e; exact ⟨_, hb⟩
    · exact ⟨_, hj⟩
   obtain ⟨c, hc⟩ := this
   exact h.br j j' c e m hc hj' hm
end
end Go.Proofs.YtjjpakdlkjaigaaGreat
