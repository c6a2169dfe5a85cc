/- A part of the proof of a law: VA, VB, VS, VC, VD, VE, VF, VG, VH, VI, VJ, VK, VL, VM, VN, VP, VQ. -/
import Derived.WalkKit
import Derived.WalkSpells
import Derived.WalkLawsBesides
import Derived.Maps.AppendAt
set_option linter.all false
set_option linter.unusedVariables false
set_option linter.unusedSimpArgs false
set_option linter.unusedSectionVars false
/- A symbolic executor for loaded Go code: its values, its state, its steps. Definitions alone. -/
namespace Go.Proofs.YtjjpakdlkjaigaaGreat
open Go.RowKit
structure GVer where
 count : Int
 writer : Int
deriving DecidableEq
structure GItem where
 key : Int
 ver : GVer
 value : Int
 gone : Bool
deriving DecidableEq
structure GPeer where
 id : Int
 missed : Int
deriving DecidableEq
structure GTold where
 key : Int
 has : Bool
 value : Int
deriving DecidableEq
structure GCut where
 a : Int
 b : Int
deriving DecidableEq
structure GView where
 id : Int
 peers : List GPeer
 passive : List Int
deriving DecidableEq
structure GMsg where
 kind : Int
 src : Int
 dst : Int
 ids : List Int
 key : Int
 item : GItem
 has : Bool
deriving DecidableEq
structure GNode where
 up : Bool
 view : GView
 items : List GItem
 log : List GTold
deriving DecidableEq
structure GWorld where
 nodes : List GNode
 cuts : List GCut
 packets : List GMsg
deriving DecidableEq
structure GAct where
 kind : Int
 node : Int
 other : Int
 pick : Int
 ids : List Int
 key : Int
 value : Int
deriving DecidableEq
instance : Inhabited GVer := ⟨⟨0, 0⟩⟩
instance : Inhabited GItem := ⟨⟨0, ⟨0, 0⟩, 0, false⟩⟩
instance : Inhabited GPeer := ⟨⟨0, 0⟩⟩
instance : Inhabited GTold := ⟨⟨0, false, 0⟩⟩
instance : Inhabited GCut := ⟨⟨0, 0⟩⟩
instance : Inhabited GView := ⟨⟨0, [], []⟩⟩
instance : Inhabited GMsg := ⟨⟨0, 0, 0, [], 0, ⟨0, ⟨0, 0⟩, 0, false⟩, false⟩⟩
instance : Inhabited GNode := ⟨⟨false, ⟨0, [], []⟩, [], []⟩⟩
instance : Inhabited GWorld := ⟨⟨[], [], []⟩⟩
instance : Inhabited GAct := ⟨⟨0, 0, 0, 0, [], 0, 0⟩⟩
inductive Rw where
 | ints (xs : List Int)
 | bytes (xs : List Int)
 | strs (xs : List ByteArray)
 | peers (xs : List GPeer)
 | items (xs : List GItem)
 | tolds (xs : List GTold)
 | cuts (xs : List GCut)
 | msgs (xs : List GMsg)
 | nodes (xs : List GNode)
 | acts (xs : List GAct)
 | intss (xs : List (List Int))
 | bools (xs : List Bool)
inductive Tag where
 | old | new | any
inductive SV where
 | int (k : IntKind) (n : Int)
 | bool (b : Bool)
 | lit (b : Bool)
 | str (s : ByteArray)
 | row (t : Tag) (r : Rw)
 | nilS (r : Rw)
 | pre (t : Tag) (r : Rw) (n : Nat)
 | own (k : Nat)
 | box (k off : Nat)
 | pt (t : Tag) (cs : List SV)
 | oel (k : Nat) (i : Int) (off : Nat)
 | agg (cs : List SV)
 | tup (vs : List SV)
 | clo (f : FuncId) (first caps : List SV)
 | junk
def Rw.len : Rw → Nat
 | .ints xs => xs.length
 | .bytes xs => xs.length
 | .strs xs => xs.length
 | .peers xs => xs.length
 | .items xs => xs.length
 | .tolds xs => xs.length
 | .cuts xs => xs.length
 | .msgs xs => xs.length
 | .nodes xs => xs.length
 | .acts xs => xs.length
 | .intss xs => xs.length
 | .bools xs => xs.length
def Rw.kd : Rw → Nat
 | .ints _ => 0
 | .bytes _ => 1
 | .strs _ => 2
 | .peers _ => 3
 | .items _ => 4
 | .tolds _ => 5
 | .cuts _ => 6
 | .msgs _ => 7
 | .nodes _ => 8
 | .acts _ => 9
 | .intss _ => 10
 | .bools _ => 11
def kdSz : Nat → Nat
 | 3 => 2
 | 4 => 5
 | 5 => 3
 | 6 => 2
 | 7 => 11
 | 8 => 6
 | 9 => 7
 | _ => 1
def kdBytes : Nat → Nat
 | 0 => 8
 | 1 => 1
 | 2 => 16
 | 3 => 16
 | 4 => 40
 | 5 => 24
 | 6 => 16
 | 7 => 104
 | 8 => 112
 | 9 => 72
 | 10 => 24
 | _ => 1
def Rw.sz (r : Rw) : Nat := kdSz r.kd
def Rw.bts (r : Rw) : Nat := kdBytes r.kd
def mkEmpty : Nat → Rw
 | 1 => .bytes []
 | 2 => .strs []
 | 3 => .peers []
 | 4 => .items []
 | 5 => .tolds []
 | 6 => .cuts []
 | 7 => .msgs []
 | 8 => .nodes []
 | 9 => .acts []
 | 10 => .intss []
 | 11 => .bools []
 | _ => .ints []
def Rw.flat : Rw → Bool
 | .msgs _ => false
 | .nodes _ => false
 | .acts _ => false
 | .intss _ => false
 | _ => true
def GItem.cells (x : GItem) : List SV := [.int .i64 x.key, .int .i64 x.ver.count, .int .i64 x.ver.writer, .int .i64 x.value, .bool x.gone]
def GPeer.cells (x : GPeer) : List SV := [.int .i64 x.id, .int .i64 x.missed]
def GTold.cells (x : GTold) : List SV := [.int .i64 x.key, .bool x.has, .int .i64 x.value]
def GCut.cells (x : GCut) : List SV := [.int .i64 x.a, .int .i64 x.b]
def GView.cells (t : Tag) (x : GView) : List SV := [.int .i64 x.id, .row t (.peers x.peers), .row t (.ints x.passive)]
def GMsg.cells (t : Tag) (x : GMsg) : List SV :=
 [.int .i64 x.kind, .int .i64 x.src, .int .i64 x.dst, .row t (.ints x.ids), .int .i64 x.key,
  .int .i64 x.item.key, .int .i64 x.item.ver.count, .int .i64 x.item.ver.writer, .int .i64 x.item.value, .bool x.item.gone, .bool x.has]
def GNode.cells (t : Tag) (x : GNode) : List SV :=
 [.bool x.up, .int .i64 x.view.id, .row t (.peers x.view.peers), .row t (.ints x.view.passive), .row t (.items x.items), .row t (.tolds x.log)]
def GWorld.cells (t : Tag) (x : GWorld) : List SV := [.row t (.nodes x.nodes), .row t (.cuts x.cuts), .row t (.msgs x.packets)]
def GAct.cells (t : Tag) (x : GAct) : List SV :=
 [.int .i64 x.kind, .int .i64 x.node, .int .i64 x.other, .int .i64 x.pick, .row t (.ints x.ids), .int .i64 x.key, .int .i64 x.value]
def Rw.cell (t : Tag) : Rw → Nat → List SV
 | .ints xs, i => [.int .i64 (xs.getD i 0)]
 | .bytes xs, i => [.int .u8 (xs.getD i 0)]
 | .strs xs, i => [.str (xs.getD i ByteArray.empty)]
 | .peers xs, i => (xs.getD i default).cells
 | .items xs, i => (xs.getD i default).cells
 | .tolds xs, i => (xs.getD i default).cells
 | .cuts xs, i => (xs.getD i default).cells
 | .msgs xs, i => (xs.getD i default).cells t
 | .nodes xs, i => (xs.getD i default).cells t
 | .acts xs, i => (xs.getD i default).cells t
 | .intss xs, i => [.row t (.ints (xs.getD i []))]
 | .bools xs, i => [.bool (xs.getD i false)]
def SV.asBool : SV → Option Bool
 | .bool b => some b
 | .lit b => some b
 | _ => none
def SV.asInts : SV → Option (List Int)
 | .row _ (.ints xs) => some xs
 | .nilS (.ints xs) => some xs
 | _ => none
def SV.asPeers : SV → Option (List GPeer)
 | .row _ (.peers xs) => some xs
 | .nilS (.peers xs) => some xs
 | _ => none
def SV.asItems : SV → Option (List GItem)
 | .row _ (.items xs) => some xs
 | .nilS (.items xs) => some xs
 | _ => none
def SV.asTolds : SV → Option (List GTold)
 | .row _ (.tolds xs) => some xs
 | .nilS (.tolds xs) => some xs
 | _ => none
def decItem : List SV → Option GItem
 | [.int .i64 k, .int .i64 c, .int .i64 w, .int .i64 v, g] => match g.asBool with
   | some g => some ⟨k, ⟨c, w⟩, v, g⟩
   | none => none
 | _ => none
def decPeer : List SV → Option GPeer
 | [.int .i64 i, .int .i64 m] => some ⟨i, m⟩
 | _ => none
def decTold : List SV → Option GTold
 | [.int .i64 k, h, .int .i64 v] => match h.asBool with
   | some h => some ⟨k, h, v⟩
   | none => none
 | _ => none
def decCut : List SV → Option GCut
 | [.int .i64 a, .int .i64 b] => some ⟨a, b⟩
 | _ => none
def decMsg : List SV → Option GMsg
 | [.int .i64 kind, .int .i64 src, .int .i64 dst, ids, .int .i64 key, .int .i64 k, .int .i64 c, .int .i64 w, .int .i64 v, g, h] =>
   match ids.asInts, g.asBool, h.asBool with
   | some ids, some g, some h => some ⟨kind, src, dst, ids, key, ⟨k, ⟨c, w⟩, v, g⟩, h⟩
   | _, _, _ => none
 | _ => none
def decNode : List SV → Option GNode
 | [up, .int .i64 i, ps, is, its, log] => match up.asBool, ps.asPeers, is.asInts, its.asItems, log.asTolds with
   | some up, some ps, some is, some its, some log => some ⟨up, ⟨i, ps, is⟩, its, log⟩
   | _, _, _, _, _ => none
 | _ => none
def decAct : List SV → Option GAct
 | [.int .i64 kind, .int .i64 node, .int .i64 other, .int .i64 pick, ids, .int .i64 key, .int .i64 value] => match ids.asInts with
   | some ids => some ⟨kind, node, other, pick, ids, key, value⟩
   | none => none
 | _ => none
def decInt : List SV → Option Int
 | [.int .i64 n] => some n
 | _ => none
def decByte : List SV → Option Int
 | [.int .u8 n] => some n
 | _ => none
def decStr : List SV → Option ByteArray
 | [.str s] => some s
 | _ => none
def decInts : List SV → Option (List Int)
 | [x] => x.asInts
 | _ => none
def decBool : List SV → Option Bool
 | [x] => x.asBool
 | _ => none
def decAll {α : Type} (dec : List SV → Option α) : List (List SV) → Option (List α)
 | [] => some []
 | c :: cs => match dec c, decAll dec cs with
   | some x, some xs => some (x :: xs)
   | _, _ => none
def mkRow (k : Nat) (es : List (List SV)) : Option Rw :=
 match k with
 | 0 => (decAll decInt es).map .ints
 | 1 => (decAll decByte es).map .bytes
 | 2 => (decAll decStr es).map .strs
 | 3 => (decAll decPeer es).map .peers
 | 4 => (decAll decItem es).map .items
 | 5 => (decAll decTold es).map .tolds
 | 6 => (decAll decCut es).map .cuts
 | 7 => (decAll decMsg es).map .msgs
 | 8 => (decAll decNode es).map .nodes
 | 9 => (decAll decAct es).map .acts
 | 10 => (decAll decInts es).map .intss
 | 11 => (decAll decBool es).map .bools
 | _ => none
def Rw.setE : Rw → Nat → List SV → Option Rw
 | .ints xs, i, c => (decInt c).map fun x => .ints (xs.set i x)
 | .bytes xs, i, c => (decByte c).map fun x => .bytes (xs.set i x)
 | .strs xs, i, c => (decStr c).map fun x => .strs (xs.set i x)
 | .peers xs, i, c => (decPeer c).map fun x => .peers (xs.set i x)
 | .items xs, i, c => (decItem c).map fun x => .items (xs.set i x)
 | .tolds xs, i, c => (decTold c).map fun x => .tolds (xs.set i x)
 | .cuts xs, i, c => (decCut c).map fun x => .cuts (xs.set i x)
 | .msgs xs, i, c => (decMsg c).map fun x => .msgs (xs.set i x)
 | .nodes xs, i, c => (decNode c).map fun x => .nodes (xs.set i x)
 | .acts xs, i, c => (decAct c).map fun x => .acts (xs.set i x)
 | .intss xs, i, c => (decInts c).map fun x => .intss (xs.set i x)
 | .bools xs, i, c => (decBool c).map fun x => .bools (xs.set i x)
def Rw.app : Rw → Rw → Option Rw
 | .ints xs, .ints ys => some (.ints (xs ++ ys))
 | .bytes xs, .bytes ys => some (.bytes (xs ++ ys))
 | .strs xs, .strs ys => some (.strs (xs ++ ys))
 | .peers xs, .peers ys => some (.peers (xs ++ ys))
 | .items xs, .items ys => some (.items (xs ++ ys))
 | .tolds xs, .tolds ys => some (.tolds (xs ++ ys))
 | .cuts xs, .cuts ys => some (.cuts (xs ++ ys))
 | .msgs xs, .msgs ys => some (.msgs (xs ++ ys))
 | .nodes xs, .nodes ys => some (.nodes (xs ++ ys))
 | .acts xs, .acts ys => some (.acts (xs ++ ys))
 | .intss xs, .intss ys => some (.intss (xs ++ ys))
 | .bools xs, .bools ys => some (.bools (xs ++ ys))
 | _, _ => none
def Rw.sub (l h : Nat) : Rw → Rw
 | .ints xs => .ints ((xs.take h).drop l)
 | .bytes xs => .bytes ((xs.take h).drop l)
 | .strs xs => .strs ((xs.take h).drop l)
 | .peers xs => .peers ((xs.take h).drop l)
 | .items xs => .items ((xs.take h).drop l)
 | .tolds xs => .tolds ((xs.take h).drop l)
 | .cuts xs => .cuts ((xs.take h).drop l)
 | .msgs xs => .msgs ((xs.take h).drop l)
 | .nodes xs => .nodes ((xs.take h).drop l)
 | .acts xs => .acts ((xs.take h).drop l)
 | .intss xs => .intss ((xs.take h).drop l)
 | .bools xs => .bools ((xs.take h).drop l)
def Rw.zeros (k n : Nat) : Rw :=
 match k with
 | 1 => .bytes (List.replicate n 0)
 | 2 => .strs (List.replicate n ByteArray.empty)
 | 3 => .peers (List.replicate n default)
 | 4 => .items (List.replicate n default)
 | 5 => .tolds (List.replicate n default)
 | 6 => .cuts (List.replicate n default)
 | 7 => .msgs (List.replicate n default)
 | 8 => .nodes (List.replicate n default)
 | 9 => .acts (List.replicate n default)
 | 10 => .intss (List.replicate n [])
 | 11 => .bools (List.replicate n false)
 | _ => .ints (List.replicate n 0)
inductive TD where
 | int (k : IntKind)
 | bool
 | str
 | slice (e : TypeId)
 | struct (fs : List (Nat × TypeId))
 | arr (n : Nat) (e : TypeId)
 | other
structure TI where
 td : TD
 sz : Nat
 bytes : Nat
 zero : List SV
structure Tys where
 ti : TypeId → Option TI
 rk : TypeId → Option Nat
 et : Nat → TypeId
 sh : TypeId → Option (List Nat)
def Tys.td (τ : Tys) (T : TypeId) : TD := match τ.ti T with
 | some i => i.td
 | none => .other
def Tys.agg (τ : Tys) (T : TypeId) : Bool := match τ.td T with
 | .struct _ => true
 | .arr _ _ => true
 | _ => false
def Tys.sz (τ : Tys) (T : TypeId) : Nat := match τ.ti T with
 | some i => i.sz
 | none => 0
def Tys.rowKind (τ : Tys) (T : TypeId) : Option Nat := match τ.td T with
 | .slice e => τ.rk e
 | _ => none
inductive Ent where
 | own (r : Rw)
 | part (lo : Nat) (r : Rw)
 | shared (t : Tag) (r : Rw)
structure St where
 fr : List (Nat × SV)
 stk : List (List (Nat × SV))
 boxes : List (Nat × (TypeId × List SV))
 rows : List (Nat × Ent)
 dep : Nat
def lkv : List (Nat × SV) → Nat → SV
 | [], _ => .junk
 | (k, v) :: l, t => match Nat.beq k t with
   | true => v
   | false => lkv l t
def lk {α : Type} : List (Nat × α) → Nat → Option α
 | [], _ => none
 | (k, v) :: l, t => match Nat.beq k t with
   | true => some v
   | false => lk l t
def upd {α : Type} : List (Nat × α) → Nat → α → List (Nat × α)
 | [], k, v => [(k, v)]
 | (k', v') :: l, k, v => match Nat.beq k' k with
   | true => (k, v) :: l
   | false => (k', v') :: upd l k v
def nth {α : Type} : List α → Nat → Option α
 | [], _ => none
 | x :: _, 0 => some x
 | _ :: l, n + 1 => nth l n
def SV.force {α : Type} (v : SV) (K : SV → α) : α :=
 match v with
 | .int k n => K (.int k n)
 | .bool b => K (.bool b)
 | .lit b => K (.lit b)
 | .str s => K (.str s)
 | .row t r => K (.row t r)
 | .nilS r => K (.nilS r)
 | .pre t r n => K (.pre t r n)
 | .own k => K (.own k)
 | .box k off => K (.box k off)
 | .pt t cs => K (.pt t cs)
 | .oel k i off => K (.oel k i off)
 | .agg cs => K (.agg cs)
 | .tup vs => K (.tup vs)
 | .clo f a c => K (.clo f a c)
 | .junk => K .junk
theorem SV.force_eq {α : Type} (v : SV) (K : SV → α) : v.force K = K v := by cases v <;> rfl
def forceL {α : Type} : List SV → (List SV → α) → α
 | [], K => K []
 | v :: l, K => v.force fun v' => forceL l fun l' => K (v' :: l')
theorem forceL_eq {α : Type} (l : List SV) (K : List SV → α) : forceL l K = K l := by
 induction l generalizing K with
 | nil => rfl
 | cons v l ih => simp only [forceL, SV.force_eq, ih]
def SV.cells : SV → List SV
 | .agg cs => cs
 | v => [v]
def SV.ofVal : Value → SV
 | .int k n => .int k n
 | .bool b => .lit b
 | .string s => .str s
 | _ => .junk
def SV.cook : SV → SV
 | .pre t r n => .row t (r.sub 0 n)
 | v => v
def St.raw (s : St) : Operand → SV
 | .tmp t => lkv s.fr t
 | .const v => SV.ofVal v
 | .func f => .clo f [] []
 | .global _ => .junk
def St.get (s : St) : Operand → SV
 | .tmp t => (lkv s.fr t).cook
 | .const v => SV.ofVal v
 | .func f => .clo f [] []
 | .global _ => .junk
def getT (τ : Tys) (s : St) (T : TypeId) : Operand → SV
 | .const (.slice none 0 0) => match τ.rowKind T with
   | some k => .nilS (mkEmpty k)
   | none => .junk
 | x => s.get x
def rawT (τ : Tys) (s : St) (T : TypeId) : Operand → SV
 | .const (.slice none 0 0) => match τ.rowKind T with
   | some k => .nilS (mkEmpty k)
   | none => .junk
 | x => s.raw x
def putv (d : Option Tmp) (v : SV) (s : St) : St :=
 match s, d with
 | ⟨fr, stk, b, r, p⟩, some d => ⟨(d, v) :: fr, stk, b, r, p⟩
 | ⟨fr, stk, b, r, p⟩, none => ⟨fr, stk, b, r, p⟩
inductive RS where
 | ok (s : St)
 | ob (p : Prop) (s : St)
 | bad
inductive RV where
 | ok (v : SV)
 | ob (p : Prop) (v : SV)
 | bad
def RV.to (r : RV) (d : Option Tmp) (s : St) : RS :=
 match r with
 | .ok v => v.force fun v => .ok (putv d v s)
 | .ob p v => v.force fun v => .ob p (putv d v s)
 | .bad => .bad
def sameK : IntKind → IntKind → Bool
 | .i8, .i8 => true
 | .i16, .i16 => true
 | .i32, .i32 => true
 | .i64, .i64 => true
 | .u8, .u8 => true
 | .u16, .u16 => true
 | .u32, .u32 => true
 | .u64, .u64 => true
 | _, _ => false
def eqCells : List Nat → List SV → List SV → Option Bool
 | [], [], [] => some true
 | 0 :: sh, .int .i64 a :: l, .int .i64 b :: l' => match sh, eqCells sh l l' with
   | [], some _ => some (decide (a = b))
   | _, some e => some (decide (a = b) && e)
   | _, none => none
 | (_ + 1) :: sh, x :: l, y :: l' => match sh, x.asBool, y.asBool, eqCells sh l l' with
   | [], some a, some b, some _ => some (a == b)
   | _, some a, some b, some e => some ((a == b) && e)
   | _, _, _, _ => none
 | _, _, _ => none
def evInt (op : BinOp) (k : IntKind) (a b : Int) : RV :=
 match op with
 | .add => .ok (.int k (k.wrap (a + b)))
 | .sub => .ok (.int k (k.wrap (a - b)))
 | .mul => .ok (.int k (k.wrap (a * b)))
 | .quo => .ob (b ≠ 0) (.int k (k.wrap (a.tdiv b)))
 | .rem => .ob (b ≠ 0) (.int k (a.tmod b))
 | .and => .ok (.int k (bits .and k a b))
 | .or => .ok (.int k (bits .or k a b))
 | .xor => .ok (.int k (bits .xor k a b))
 | .andNot => .ok (.int k (bits .andNot k a b))
 | .eql => .ok (.bool (decide (a = b)))
 | .neq => .ok (.bool (!decide (a = b)))
 | .lss => .ok (.bool (decide (a < b)))
 | .leq => .ok (.bool (decide (a ≤ b)))
 | .gtr => .ok (.bool (decide (b < a)))
 | .geq => .ok (.bool (decide (b ≤ a)))
 | _ => .bad
def evBin (τ : Tys) (T : TypeId) (op : BinOp) (x y : SV) : RV :=
 match x, y with
 | .int k a, .int k' b =>
   match op with
   | .shl => .ob (0 ≤ b ∧ b ≤ k.bits) (.int k (k.wrap (a * 2 ^ b.toNat)))
   | .shr => .ob (0 ≤ b ∧ b ≤ k.bits) (.int k (a / 2 ^ b.toNat))
   | op => match sameK k k' with
     | true => evInt op k a b
     | false => .bad
 | .str a, .str b =>
   match op with
   | .add => .ob (a.size + b.size ≤ 9223372036854775807) (.str (a ++ b))
   | .eql => .ok (.bool (a.toList == b.toList))
   | .neq => .ok (.bool (!(a.toList == b.toList)))
   | _ => .bad
 | .agg a, .agg b =>
   match τ.sh T with
   | some sh => match op, eqCells sh a b with
     | .eql, some e => .ok (.bool e)
     | .neq, some e => .ok (.bool (!e))
     | _, _ => .bad
   | none => .bad
 | x, y =>
   match τ.td T, op, x.asBool, y.asBool with
   | .bool, .eql, some a, some b => .ok (.bool (a == b))
   | .bool, .neq, some a, some b => .ok (.bool (!(a == b)))
   | _, _, _, _ => .bad
def evUn (op : UnOp) (x : SV) : RV :=
 match op, x with
 | .not, .bool b => .ok (.bool (!b))
 | .not, .lit true => .ok (.lit false)
 | .not, .lit false => .ok (.lit true)
 | .neg, .int k n => .ok (.int k (k.wrap (0 - n)))
 | _, _ => .bad
def evPick (c a b : SV) : RV :=
 match c with
 | .lit true => .ok a
 | .lit false => .ok b
 | .bool c => match a.asBool, b.asBool with
   | some a, some b => .ok (.bool (bif c then a else b))
   | _, _ => .bad
 | _ => .bad
theorem seal_ex {α : Type} (a : α) : ∃ b, b = a := ⟨a, rfl⟩
noncomputable def byteAt (s : ByteArray) (i : Nat) : Int := Classical.choose (seal_ex (if h : i < s.size then ((s[i]'h).toNat : Int) else 0))
theorem byteAt_def (s : ByteArray) (i : Nat) : byteAt s i = if h : i < s.size then ((s[i]'h).toNat : Int) else 0 := Classical.choose_spec (seal_ex _)
def cut {α : Type} (cs : List α) (off n : Nat) : List α := (cs.drop off).take n
def part' (τ : Tys) (T : TypeId) (cs : List SV) (off : Nat) : RV :=
 match τ.ti T with
 | none => .bad
 | some _ => match τ.agg T with
 | true => match Nat.ble (off + τ.sz T) cs.length with
   | true => forceL (cut cs off (τ.sz T)) fun l => .ok (.agg l)
   | false => .bad
 | false => match nth cs off with
   | some v => .ok v
   | none => .bad
def setRange {α : Type} : List α → Nat → List α → List α
 | cs, _, [] => cs
 | [], _, _ => []
 | _ :: cs, 0, v :: vs => v :: setRange cs 0 vs
 | c :: cs, n + 1, vs => c :: setRange cs n vs
def own0 (k : Nat) : SV → Bool
 | .own j => Nat.beq j k
 | .oel j _ _ => Nat.beq j k
 | _ => false
def box0 (k : Nat) : SV → Bool
 | .box j _ => Nat.beq j k
 | _ => false
def anyL (p : SV → Bool) : List SV → Bool
 | [] => false
 | v :: l => match p v with
   | true => true
   | false => anyL p l
def deepf (p : SV → Bool) : SV → Bool
 | .agg cs => anyL p cs
 | v => p v
def deep1 (p : SV → Bool) : SV → Bool
 | .clo _ a c => match anyL (deepf p) a with
   | true => true
   | false => anyL p c
 | v => p v
def deep2 (p : SV → Bool) : SV → Bool
 | .agg cs => anyL (deep1 p) cs
 | v => deep1 p v
def deep3 (p : SV → Bool) : SV → Bool
 | .tup vs => anyL (deep2 p) vs
 | v => deep2 p v
def frHas (p : SV → Bool) : List (Nat × SV) → Bool
 | [] => false
 | (_, v) :: l => match deep3 p v with
   | true => true
   | false => frHas p l
def stkHas (p : SV → Bool) : List (List (Nat × SV)) → Bool
 | [] => false
 | f :: l => match frHas p f with
   | true => true
   | false => stkHas p l
def boxesHas (p : SV → Bool) : List (Nat × (TypeId × List SV)) → Bool
 | [] => false
 | (_, (_, cs)) :: l => match anyL (deep1 p) cs with
   | true => true
   | false => boxesHas p l
def St.has (p : SV → Bool) (s : St) : Bool := match frHas p s.fr with
 | true => true
 | false => match stkHas p s.stk with
   | true => true
   | false => boxesHas p s.boxes
def killV (k : Nat) (v : SV) : SV := match deep3 (own0 k) v with
 | true => .junk
 | false => v
def killF (k : Nat) : List (Nat × SV) → List (Nat × SV)
 | [] => []
 | (t, v) :: l => (t, killV k v) :: killF k l
def killS (k : Nat) : List (List (Nat × SV)) → List (List (Nat × SV))
 | [] => []
 | f :: l => killF k f :: killS k l
def killC (k : Nat) : List SV → List SV
 | [] => []
 | v :: l => killV k v :: killC k l
def killB (k : Nat) : List (Nat × (TypeId × List SV)) → List (Nat × (TypeId × List SV))
 | [] => []
 | (b, (T, cs)) :: l => (b, (T, killC k cs)) :: killB k l
def forceF {α : Type} : List (Nat × SV) → (List (Nat × SV) → α) → α
 | [], K => K []
 | (t, v) :: l, K => v.force fun v' => forceF l fun l' => K ((t, v') :: l')
theorem forceF_eq {α : Type} (l : List (Nat × SV)) (K : List (Nat × SV) → α) : forceF l K = K l := by
 induction l generalizing K with
 | nil => rfl
 | cons v l ih => obtain ⟨t, v⟩ := v; simp only [forceF, SV.force_eq, ih]
def forceS {α : Type} : List (List (Nat × SV)) → (List (List (Nat × SV)) → α) → α
 | [], K => K []
 | f :: l, K => forceF f fun f' => forceS l fun l' => K (f' :: l')
theorem forceS_eq {α : Type} (l : List (List (Nat × SV))) (K : List (List (Nat × SV)) → α) : forceS l K = K l := by
 induction l generalizing K with
 | nil => rfl
 | cons v l ih => simp only [forceS, forceF_eq, ih]
def forceB {α : Type} : List (Nat × (TypeId × List SV)) → (List (Nat × (TypeId × List SV)) → α) → α
 | [], K => K []
 | (b, (T, cs)) :: l, K => forceL cs fun cs' => forceB l fun l' => K ((b, (T, cs')) :: l')
theorem forceB_eq {α : Type} (l : List (Nat × (TypeId × List SV))) (K : List (Nat × (TypeId × List SV)) → α) : forceB l K = K l := by
 induction l generalizing K with
 | nil => rfl
 | cons v l ih => obtain ⟨b, T, cs⟩ := v; simp only [forceB, forceL_eq, ih]
def Ent.row : Ent → Tag × Rw
 | .own r => (.new, r)
 | .part _ r => (match r.flat with
   | true => .new
   | false => .any, r)
 | .shared t r => (t, r)
def res1 (R : List (Nat × Ent)) : SV → SV
 | .own k => match lk R k with
   | some e => match e.row with
     | (t, r) => .row t r
   | none => .junk
 | v => v
def SV.plain : SV → SV
 | .int k n => .int k n
 | .bool b => .bool b
 | .lit b => .bool b
 | .str s => .str s
 | .row _ r => .row .any r
 | .nilS r => .row .any r
 | _ => .junk
def plainL (R : List (Nat × Ent)) : List SV → List SV
 | [] => []
 | v :: l => (res1 R v).plain :: plainL R l
def noJunk : List SV → Bool
 | [] => true
 | .junk :: _ => false
 | _ :: l => noJunk l
def ptOf (cs : List SV) : SV := match noJunk cs with
 | true => .pt .any cs
 | false => .junk
def resP (s : St) : SV → SV
 | .pt _ cs => forceL (plainL s.rows cs) ptOf
 | .box k off => match lk s.boxes k with
   | some (_, cs) => forceL (plainL s.rows (cs.drop off)) ptOf
   | none => .junk
 | .oel k i off => match lk s.rows k with
   | some (.own r) => .pt .any ((r.cell .any i.toNat).drop off)
   | some (.part _ r) => .pt .any ((r.cell .any i.toNat).drop off)
   | _ => .junk
 | v => (res1 s.rows v).plain
def resF (s : St) : SV → SV
 | .agg cs => .agg (plainL s.rows cs)
 | v => resP s v
def mapP (f : SV → SV) : List SV → List SV
 | [] => []
 | v :: l => f v :: mapP f l
def resA (s : St) : SV → SV
 | .clo f a c => .clo f (mapP (resF s) a) (mapP (resP s) c)
 | v => resF s v
end Go.Proofs.YtjjpakdlkjaigaaGreat

/- A symbolic executor for loaded Go code: what its states say of the machine's. -/
namespace Go.Proofs.YtjjpakdlkjaigaaGreat
open Go.RowKit
structure Env where
 base : Nat
 M : Nat
 bs : Nat → Nat
 hs : Nat → Value
 ow : Nat → Prop
def unfz (w : World) (g : Nat) : Prop := ∀ c T lo hi, w.heap[g]? = some (.cells c T (lo, hi)) → hi ≤ lo ∨ c.size ≤ lo
theorem unfz.of {w w' : World} {g : Nat} (h : unfz w g) (he : w'.heap[g]? = w.heap[g]?) : unfz w' g := fun c T lo hi hc => h c T lo hi (he ▸ hc)
theorem unfz_row {w : World} {g : Nat} {c : Array Value} {T : TypeId} (h : w.heap[g]? = some (.cells c T (0, 0))) : unfz w g := fun c' T' lo hi hc => by
 rw [h] at hc
 injection hc with hc
 injection hc with _ _ hc
 injection hc with h1 h2
 omega
def Env.F (E : Env) (w : World) (t : Tag) (g : Nat) : Prop := ¬ E.ow g ∧ match t with
 | .old => g < E.M
 | .new => E.M ≤ g ∧ unfz w g
 | .any => True
def sc : SV → Value → Prop
 | .int k n, v => v = .int k n
 | .bool b, v => v = .bool b
 | .lit b, v => v = .bool b
 | .str s, v => v = .string s
 | _, _ => False
def RowD (cd : SV → Value → Prop) (w : World) (F : Nat → Prop) (r : Rw) (v : Value) : Prop :=
 r.len * r.bts ≤ 140737488355328 ∧ ∃ A c, v = .slice A r.len c ∧ r.len ≤ c ∧
  (0 < r.len → ∃ ad : Addr, A = some ad ∧ ad.spot = none ∧ F ad.block ∧
    ∀ (i j : Nat) x, i < r.len → (r.cell .any i)[j]? = some x → ∃ u, w.cell? (ad.add (i * r.sz + j)) = some u ∧ cd x u)
def cd1 (w : World) (F : Nat → Prop) : SV → Value → Prop
 | .row _ r, u => RowD sc w F r u
 | x, u => sc x u
def RowDen (w : World) (F : Nat → Prop) (r : Rw) (v : Value) : Prop := RowD (cd1 w F) w F r v
def cd2 (w : World) (F : Nat → Prop) : SV → Value → Prop
 | .row _ r, u => RowDen w F r u
 | x, u => sc x u
def L0 (p : SV → Value → Prop) (cs : List SV) (us : List Value) : Prop := cs.length = us.length ∧ ∀ (j : Nat) x, cs[j]? = some x → ∃ u, us[j]? = some u ∧ p x u
theorem L0.mono {p q : SV → Value → Prop} {cs : List SV} {us : List Value} (h : L0 p cs us) (hq : ∀ x u, x ∈ cs → p x u → q x u) : L0 q cs us :=
 ⟨h.1, fun j x hx => let ⟨u, hu, hp⟩ := h.2 j x hx; ⟨u, hu, hq x u (List.mem_of_getElem? hx) hp⟩⟩
theorem L0.nil {p : SV → Value → Prop} : L0 p [] [] := ⟨rfl, fun j x h => by simp at h⟩
theorem L0.cons {p : SV → Value → Prop} {x : SV} {u : Value} {cs : List SV} {us : List Value} (h : p x u) (hl : L0 p cs us) : L0 p (x :: cs) (u :: us) := by
 refine ⟨by simp [hl.1], fun j y hy => ?_⟩
 cases j with
 | zero => simp at hy; subst hy; exact ⟨u, by simp, h⟩
 | succ j => simpa using hl.2 j y (by simpa using hy)
theorem L0.inv_cons {p : SV → Value → Prop} {x : SV} {cs : List SV} {us : List Value} (h : L0 p (x :: cs) us) : ∃ u us', us = u :: us' ∧ p x u ∧ L0 p cs us' := by
 cases us with
 | nil => have := h.1; simp at this
 | cons u us =>
   refine ⟨u, us, rfl, ?_, ?_⟩
   · obtain ⟨u', hu, hp⟩ := h.2 0 x (by simp)
     simp at hu; subst hu; exact hp
   · exact ⟨by have := h.1; simpa using this, fun j y hy => by simpa using h.2 (j + 1) y (by simpa using hy)⟩
theorem L0.inv_nil {p : SV → Value → Prop} {us : List Value} (h : L0 p [] us) : us = [] := by
 have := h.1; simp at this; exact List.eq_nil_of_length_eq_zero this.symm
theorem L0.drop {p : SV → Value → Prop} {cs : List SV} {us : List Value} (h : L0 p cs us) (n : Nat) : L0 p (cs.drop n) (us.drop n) :=
 ⟨by simp [h.1], fun j x hx => by
   rw [List.getElem?_drop] at hx ⊢
   exact h.2 _ x hx⟩
theorem L0.take {p : SV → Value → Prop} {cs : List SV} {us : List Value} (h : L0 p cs us) (n : Nat) : L0 p (cs.take n) (us.take n) :=
 ⟨by simp [h.1], fun j x hx => by
   rw [List.getElem?_take] at hx ⊢
   split at hx
   · rename_i hj; rw [if_pos hj]; exact h.2 _ x hx
   · simp at hx⟩
theorem L0.append {p : SV → Value → Prop} {cs cs' : List SV} {us us' : List Value} (h : L0 p cs us) (h' : L0 p cs' us') : L0 p (cs ++ cs') (us ++ us') := by
 refine ⟨by simp [h.1, h'.1], fun j x hx => ?_⟩
 by_cases hj : j < cs.length
 · rw [List.getElem?_append_left hj] at hx
   rw [List.getElem?_append_left (by rw [← h.1]; exact hj)]
   exact h.2 j x hx
 · rw [List.getElem?_append_right (by omega)] at hx
   rw [List.getElem?_append_right (by rw [← h.1]; omega), ← h.1]
   exact h'.2 _ x hx
def Ent.mine : Ent → Option (Nat × Rw)
 | .own r => some (r.len, r)
 | .part lo r => some (lo, r)
 | .shared _ _ => none
def vd0 (E : Env) (R : List (Nat × Ent)) (w : World) : SV → Value → Prop
 | .int k n, v => v = .int k n
 | .bool b, v => v = .bool b
 | .lit b, v => v = .bool b
 | .str s, v => v = .string s
 | .row t r, v => RowDen w (E.F w t) r v
 | .nilS r, v => v = .slice none 0 0 ∧ r.len = 0
 | .pre t r n, v => ∃ A c, v = .slice A n c ∧ n ≤ r.len ∧ RowDen w (E.F w t) r (.slice A r.len c)
 | .own k, v => match lk R k with
   | some (.own _) => v = E.hs k
   | some (.part _ _) => v = E.hs k
   | some (.shared t r) => RowDen w (E.F w t) r v
   | none => True
 | .box k off, v => v = .pointer (some ⟨E.bs k, off, none⟩)
 | .pt t cs, v => ∃ ad : Addr, v = .pointer (some ad) ∧ ad.spot = none ∧ ad.block < w.heap.size ∧ E.F w t ad.block ∧ ∀ (j : Nat) x, cs[j]? = some x → ∃ u, w.cell? (ad.add j) = some u ∧ cd2 w (E.F w t) x u
 | .oel k i off, v => match lk R k with
   | some (.own r) => ∃ g n c, E.hs k = .slice (some ⟨g, 0, none⟩) n c ∧ 0 ≤ i ∧ i < r.len ∧ v = .pointer (some ⟨g, i.toNat * r.sz + off, none⟩)
   | some (.part _ r) => ∃ g n c, E.hs k = .slice (some ⟨g, 0, none⟩) n c ∧ 0 ≤ i ∧ i < r.len ∧ v = .pointer (some ⟨g, i.toNat * r.sz + off, none⟩)
   | _ => True
 | .junk, _ => True
 | _, _ => False
def vdf (E : Env) (R : List (Nat × Ent)) (w : World) : SV → Value → Prop
 | .agg cs, v => ∃ us, v = .agg (us : List Value).toArray ∧ L0 (vd0 E R w) cs us
 | x, v => vd0 E R w x v
def vd1 (E : Env) (R : List (Nat × Ent)) (w : World) : SV → Value → Prop
 | .clo f a c, v => ∃ us vs, v = .func (.func f) (us : List Value).toArray (vs : List Value).toArray ∧ L0 (vdf E R w) a us ∧ L0 (vd0 E R w) c vs
 | x, v => vd0 E R w x v
def vd2 (E : Env) (R : List (Nat × Ent)) (w : World) : SV → Value → Prop
 | .agg cs, v => ∃ us, v = .agg (us : List Value).toArray ∧ L0 (vd1 E R w) cs us
 | x, v => vd1 E R w x v
def vd3 (E : Env) (R : List (Nat × Ent)) (w : World) : SV → Value → Prop
 | .tup vs, v => ∃ us, v = .tuple (us : List Value).toArray ∧ L0 (vd2 E R w) vs us
 | x, v => vd2 E R w x v
theorem sub_cell (l h : Nat) (r : Rw) (hl : l ≤ h) (hh : h ≤ r.len) : (r.sub l h).kd = r.kd ∧ (r.sub l h).len = h - l ∧ ∀ t i, i < h - l → (r.sub l h).cell t i = r.cell t (l + i) := by
 cases r <;> simp only [Rw.len] at hh <;> refine ⟨rfl, by simp [Rw.sub, Rw.len]; omega, fun t i hi => ?_⟩ <;>
  simp only [Rw.sub, Rw.cell, List.getD_eq_getElem?_getD, List.getElem?_drop, List.getElem?_take, if_pos (show l + i < h by omega)]
theorem RowDen.pre {w : World} {F : Nat → Prop} {r : Rw} {A : Option Addr} {n c : Nat} (hn : n ≤ r.len) (h : RowDen w F r (.slice A r.len c)) : RowDen w F (r.sub 0 n) (.slice A n c) := by
 obtain ⟨hkd, hlen, hcell⟩ := sub_cell 0 n r (Nat.zero_le _) hn
 obtain ⟨h0, A', c', hv, hc, h⟩ := h
 injection hv with h1 h2 h3
 subst h1
 subst h3
 have hl : (r.sub 0 n).len = n := by rw [hlen]; omega
 have hb : (r.sub 0 n).bts = r.bts := by unfold Rw.bts; rw [hkd]
 have hs : (r.sub 0 n).sz = r.sz := by unfold Rw.sz; rw [hkd]
 refine ⟨by rw [hl, hb]; exact Nat.le_trans (Nat.mul_le_mul_right _ hn) h0, A, c, by rw [hl], by rw [hl]; omega, fun hp => ?_⟩
 rw [hl] at hp
 obtain ⟨ad, hA, hsp, hF, hcd⟩ := h (by omega)
 refine ⟨ad, hA, hsp, hF, fun i j x hi hx => ?_⟩
 rw [hl] at hi
 rw [hcell .any i (by omega), Nat.zero_add] at hx
 rw [hs]
 exact hcd i j x (by omega) hx
def FrD (E : Env) (R : List (Nat × Ent)) (w : World) (f : List (Nat × SV)) (a : Array Value) : Prop := ∀ t, vd3 E R w (lkv f t) (a.getD t undef)
structure BoxD (E : Env) (R : List (Nat × Ent)) (w : World) (k : Nat) (T : TypeId) (cs : List SV) : Prop where
 ow : E.ow (E.bs k)
 cells : ∃ us : List Value, w.heap[E.bs k]? = some (.cells us.toArray T (0, 0)) ∧ L0 (vd1 E R w) cs us
structure OwnD (τ : Tys) (E : Env) (w : World) (k lo : Nat) (r : Rw) : Prop where
 ow : ∀ g, (E.hs k).ownBlock = some g → E.ow g
 fits : r.len * r.bts ≤ 140737488355328
 row : ∃ us : List Value, w.ownsRow E.M (τ.et r.kd) r.sz (E.hs k) r.len us ∧
  ∀ (i j : Nat) x, i < r.len → (r.cell .any i)[j]? = some x → ∃ u, us[i * r.sz + j]? = some u ∧ cd1 w (E.F w (if i < lo then .new else .any)) x u
structure Den (τ : Tys) (w0 : World) (E : Env) (s : St) (aS : List (Array Value)) (w : World) : Prop where
 below : Below E.base w0 w
 bM : E.base ≤ E.M
 Mh : E.M ≤ w.heap.size
 owb : ∀ g, E.ow g → E.base ≤ g ∧ g < w.heap.size
 fr : ∀ (i : Nat) f, (s.fr :: s.stk)[i]? = some f → ∃ a, aS[i]? = some a ∧ FrD E s.rows w f a
 box : ∀ k T cs, lk s.boxes k = some (T, cs) → BoxD E s.rows w k T cs
 own : ∀ k e lo r, lk s.rows k = some e → e.mine = some (lo, r) → OwnD τ E w k lo r
 bb : ∀ k k' b b', lk s.boxes k = some b → lk s.boxes k' = some b' → k ≠ k' → E.bs k ≠ E.bs k'
 br : ∀ k k' b e m, lk s.boxes k = some b → lk s.rows k' = some e → e.mine = some m → (E.hs k').ownBlock ≠ some (E.bs k)
 rr : ∀ k k' e e' m m' g, lk s.rows k = some e → lk s.rows k' = some e' → e.mine = some m → e'.mine = some m' → k ≠ k' → (E.hs k).ownBlock = some g → (E.hs k').ownBlock ≠ some g
theorem cell_of_heap {w w' : World} {a : Addr} {u : Value} (h : w.cell? a = some u) (he : w'.heap[a.block]? = w.heap[a.block]?) : w'.cell? a = some u := (World.cell?_of_block he).trans h
theorem RowD.mono {cd cd' : SV → Value → Prop} {w w' : World} {F F' : Nat → Prop} {r : Rw} {v : Value} (h : RowD cd w F r v)
  (hw : ∀ g, F g → g < w.heap.size → w'.heap[g]? = w.heap[g]? ∧ F' g) (hc : ∀ x u, cd x u → cd' x u) : RowD cd' w' F' r v := by
 obtain ⟨h0, A, c, hv, hn, h⟩ := h
 refine ⟨h0, A, c, hv, hn, fun hp => ?_⟩
 obtain ⟨ad, hA, hs, hF, hcell⟩ := h hp
 -- a row with an element has a cell where its elements have cells
 by_cases hex : ∃ (i j : Nat) (x : SV), i < r.len ∧ (r.cell .any i)[j]? = some x
 · obtain ⟨i, j, x, hi, hx⟩ := hex
   obtain ⟨u, hu, _⟩ := hcell i j x hi hx
   have hlt : (ad.add (i * r.sz + j)).block < w.heap.size := World.block_lt_of_cell? w _ hu
   have hb : (ad.add (i * r.sz + j)).block = ad.block := by unfold Addr.add; split <;> rfl
   rw [hb] at hlt
   obtain ⟨he, hF'⟩ := hw _ hF hlt
   refine ⟨ad, hA, hs, hF', fun i j x hi hx => ?_⟩
   obtain ⟨u, hu, hd⟩ := hcell i j x hi hx
   have hb : (ad.add (i * r.sz + j)).block = ad.block := by unfold Addr.add; split <;> rfl
   exact ⟨u, cell_of_heap hu (by rw [hb]; exact he), hc x u hd⟩
 · exfalso
   apply hex
   refine ⟨0, 0, ((r.cell .any 0)[0]?).getD .junk, hp, ?_⟩
   cases r <;> rfl
theorem cd1.mono {w w' : World} {F F' : Nat → Prop} {x : SV} {u : Value} (h : cd1 w F x u) (hw : ∀ g, F g → g < w.heap.size → w'.heap[g]? = w.heap[g]? ∧ F' g) : cd1 w' F' x u := by
 cases x <;> first
  | exact h
  | exact RowD.mono h hw fun _ _ h => h
theorem RowDen.mono {w w' : World} {F F' : Nat → Prop} {r : Rw} {v : Value} (h : RowDen w F r v) (hw : ∀ g, F g → g < w.heap.size → w'.heap[g]? = w.heap[g]? ∧ F' g) : RowDen w' F' r v :=
 RowD.mono h hw fun _ _ h => cd1.mono h hw
theorem cd2.mono {w w' : World} {F F' : Nat → Prop} {x : SV} {u : Value} (h : cd2 w F x u) (hw : ∀ g, F g → g < w.heap.size → w'.heap[g]? = w.heap[g]? ∧ F' g) : cd2 w' F' x u := by
 cases x <;> first
  | exact h
  | exact RowDen.mono h hw
structure Keeps (E E' : Env) (w w' : World) : Prop where
 M : E'.M = E.M
 size : w.heap.size ≤ w'.heap.size
 heap : ∀ g, ¬ E.ow g → g < w.heap.size → w'.heap[g]? = w.heap[g]?
 ow : ∀ g, E'.ow g → E.ow g ∨ w.heap.size ≤ g
theorem Keeps.refl (E : Env) (w : World) : Keeps E E w w := ⟨rfl, Nat.le_refl _, fun _ _ _ => rfl, fun _ h => .inl h⟩
theorem Keeps.F {E E' : Env} {w w' : World} (h : Keeps E E' w w') (t : Tag) : ∀ g, E.F w t g → g < w.heap.size → w'.heap[g]? = w.heap[g]? ∧ E'.F w' t g := by
 intro g hF hlt
 refine ⟨h.heap g hF.1 hlt, ?_, ?_⟩
 · intro ho
   rcases h.ow g ho with h1 | h1
   · exact hF.1 h1
   · omega
 · have h2 := hF.2
   cases t with
   | old => show g < E'.M; rw [h.M]; exact h2
   | new => exact ⟨by rw [h.M]; exact h2.1, h2.2.of (h.heap g hF.1 hlt)⟩
   | any => trivial
theorem RowDen.keeps {E E' : Env} {w w' : World} {t : Tag} {r : Rw} {v : Value} (h : RowDen w (E.F w t) r v) (hk : Keeps E E' w w') : RowDen w' (E'.F w' t) r v := h.mono (hk.F t)
def Ent.like (w' : World) (E' : Env) (v : Value) (e e' : Ent) : Prop := e = e' ∨ (∃ lo lo' r r', e.mine = some (lo, r) ∧ e'.mine = some (lo', r') ∧ r.kd = r'.kd ∧ r.len = r'.len) ∨
 ∃ lo r t, e.mine = some (lo, r) ∧ e' = .shared t r ∧ RowDen w' (E'.F w' t) r v
def entLike (w' : World) (E' : Env) (v : Value) (e e' : Option Ent) : Prop := match e, e' with
 | some e, some e' => e.like w' E' v e'
 | none, none => True
 | _, _ => False
theorem entLike.refl (w' : World) (E' : Env) (v : Value) (e : Option Ent) : entLike w' E' v e e := by cases e <;> simp [entLike, Ent.like]
structure Names (E E' : Env) (R R' : List (Nat × Ent)) (w' : World) (v : SV) : Prop where
 own : ∀ k, deep3 (own0 k) v = true → E'.hs k = E.hs k ∧ entLike w' E' (E.hs k) (lk R k) (lk R' k)
 box : ∀ k, deep3 (box0 k) v = true → E'.bs k = E.bs k
theorem Rw.sz_of_kd {r r' : Rw} (h : r.kd = r'.kd) : r.sz = r'.sz := by unfold Rw.sz; rw [h]
theorem vd0.keeps {E E' : Env} {R R' : List (Nat × Ent)} {w w' : World} (hk : Keeps E E' w w') {x : SV} {v : Value}
  (ho : ∀ k, own0 k x = true → E'.hs k = E.hs k ∧ entLike w' E' (E.hs k) (lk R k) (lk R' k)) (hb : ∀ k, box0 k x = true → E'.bs k = E.bs k) (h : vd0 E R w x v) : vd0 E' R' w' x v := by
 cases x with
 | row t r => exact RowDen.keeps h hk
 | pre t r n => obtain ⟨A, c, hv, hn, hd⟩ := h; exact ⟨A, c, hv, hn, RowDen.keeps hd hk⟩
 | own k =>
   obtain ⟨h1, h2⟩ := ho k (by simp [own0])
   simp only [vd0] at h ⊢
   cases hR : lk R k with
   | none => rw [hR] at h2; cases hR' : lk R' k with
     | none => trivial
     | some e' => rw [hR'] at h2; exact h2.elim
   | some e =>
     rw [hR] at h h2
     cases hR' : lk R' k with
     | none => rw [hR'] at h2; exact h2.elim
     | some e' =>
       rw [hR'] at h2
       rcases h2 with h2 | ⟨lo, lo', r, r', m, m', _, _⟩ | ⟨lo, r, t, m, rfl, hd⟩
       · subst h2
         cases e with
         | own r => rw [h1]; exact h
         | part lo r => rw [h1]; exact h
         | shared t r => exact RowDen.keeps h hk
       · cases e <;> cases e' <;> simp_all [Ent.mine]
       · cases e with
         | own r => rw [show v = _ from h]; exact hd
         | part lo r => rw [show v = _ from h]; exact hd
         | shared t r => simp [Ent.mine] at m
 | box k off =>
   have := hb k (by simp [box0])
   simp only [vd0] at h ⊢
   rw [this]; exact h
 | pt t cs =>
   obtain ⟨ad, hv, hs, hlt, hF, hc⟩ := h
   have hb' : ∀ j, (ad.add j).block = ad.block := fun j => by unfold Addr.add; split <;> rfl
   obtain ⟨he, hF'⟩ := hk.F t _ hF hlt
   refine ⟨ad, hv, hs, Nat.lt_of_lt_of_le hlt hk.size, hF', fun j x hx => ?_⟩
   obtain ⟨u, hu, hd⟩ := hc j x hx
   exact ⟨u, cell_of_heap hu (by rw [hb']; exact he), cd2.mono hd (hk.F t)⟩
 | oel k i off =>
   obtain ⟨h1, h2⟩ := ho k (by simp [own0])
   simp only [vd0] at h ⊢
   cases hR : lk R k with
   | none => rw [hR] at h2; cases hR' : lk R' k with
     | none => trivial
     | some e' => rw [hR'] at h2; exact h2.elim
   | some e =>
     rw [hR] at h h2
     cases hR' : lk R' k with
     | none => rw [hR'] at h2; exact h2.elim
     | some e' =>
       rw [hR'] at h2
       rcases h2 with h2 | ⟨lo, lo', r, r', m, m', hkd, hlen⟩ | ⟨lo, r, t, m, rfl, hd⟩
       · subst h2
         cases e <;> first
          | trivial
          | (rw [h1]; exact h)
       · have hsz := Rw.sz_of_kd hkd
         cases e <;> cases e' <;> simp_all [Ent.mine]
       · trivial
 | _ => exact h
theorem anyL_of_mem {p : SV → Bool} {x : SV} {l : List SV} (h : x ∈ l) (hp : p x = true) : anyL p l = true := by
 induction l with
 | nil => simp at h
 | cons y l ih =>
   simp only [anyL]
   rcases List.mem_cons.1 h with rfl | h
   · rw [hp]
   · split
     · rfl
     · exact ih h
theorem vdf.keeps {E E' : Env} {R R' : List (Nat × Ent)} {w w' : World} (hk : Keeps E E' w w') {x : SV} {v : Value}
  (ho : ∀ k, deepf (own0 k) x = true → E'.hs k = E.hs k ∧ entLike w' E' (E.hs k) (lk R k) (lk R' k))
  (hb : ∀ k, deepf (box0 k) x = true → E'.bs k = E.bs k) (h : vdf E R w x v) : vdf E' R' w' x v := by
 cases x with
 | agg cs =>
   obtain ⟨us, hv, hl⟩ := h
   exact ⟨us, hv, hl.mono fun y u hy hp => vd0.keeps hk (fun k hy' => ho k (anyL_of_mem hy hy')) (fun k hy' => hb k (anyL_of_mem hy hy')) hp⟩
 | _ =>
   first
   | exact vd0.keeps (x := SV.int _ _) (v := v) hk ho hb h
   | exact vd0.keeps (x := SV.bool _) (v := v) hk ho hb h
   | exact vd0.keeps (x := SV.lit _) (v := v) hk ho hb h
   | exact vd0.keeps (x := SV.str _) (v := v) hk ho hb h
   | exact vd0.keeps (x := SV.row _ _) (v := v) hk ho hb h
   | exact vd0.keeps (x := SV.nilS _) (v := v) hk ho hb h
   | exact vd0.keeps (x := SV.pre _ _ _) (v := v) hk ho hb h
   | exact vd0.keeps (x := SV.own _) (v := v) hk ho hb h
   | exact vd0.keeps (x := SV.box _ _) (v := v) hk ho hb h
   | exact vd0.keeps (x := SV.pt _ _) (v := v) hk ho hb h
   | exact vd0.keeps (x := SV.oel _ _ _) (v := v) hk ho hb h
   | exact vd0.keeps (x := SV.agg _) (v := v) hk ho hb h
   | exact vd0.keeps (x := SV.tup _) (v := v) hk ho hb h
   | exact vd0.keeps (x := SV.clo _ _ _) (v := v) hk ho hb h
   | exact vd0.keeps (x := SV.junk) (v := v) hk ho hb h
   | exact False.elim h
theorem vd1.keeps {E E' : Env} {R R' : List (Nat × Ent)} {w w' : World} (hk : Keeps E E' w w') {x : SV} {v : Value}
  (ho : ∀ k, deep1 (own0 k) x = true → E'.hs k = E.hs k ∧ entLike w' E' (E.hs k) (lk R k) (lk R' k)) (hb : ∀ k, deep1 (box0 k) x = true → E'.bs k = E.bs k) (h : vd1 E R w x v) : vd1 E' R' w' x v := by
 cases x with
 | clo f a c =>
   obtain ⟨us, vs, hv, ha, hc⟩ := h
   refine ⟨us, vs, hv, ha.mono fun y u hy hp => vdf.keeps hk (fun k hy' => ho k ?_) (fun k hy' => hb k ?_) hp, hc.mono fun y u hy hp => vd0.keeps hk (fun k hy' => ho k ?_) (fun k hy' => hb k ?_) hp⟩
   · have := anyL_of_mem hy hy'
     simp only [deep1, this]
   · have := anyL_of_mem hy hy'
     simp only [deep1, this]
   · have := anyL_of_mem hy hy'
     simp only [deep1, this]; split <;> rfl
   · have := anyL_of_mem hy hy'
     simp only [deep1, this]; split <;> rfl
 | _ =>
   first
   | exact vd0.keeps (x := SV.int _ _) (v := v) hk ho hb h
   | exact vd0.keeps (x := SV.bool _) (v := v) hk ho hb h
   | exact vd0.keeps (x := SV.lit _) (v := v) hk ho hb h
   | exact vd0.keeps (x := SV.str _) (v := v) hk ho hb h
   | exact vd0.keeps (x := SV.row _ _) (v := v) hk ho hb h
   | exact vd0.keeps (x := SV.nilS _) (v := v) hk ho hb h
   | exact vd0.keeps (x := SV.pre _ _ _) (v := v) hk ho hb h
   | exact vd0.keeps (x := SV.own _) (v := v) hk ho hb h
   | exact vd0.keeps (x := SV.box _ _) (v := v) hk ho hb h
   | exact vd0.keeps (x := SV.pt _ _) (v := v) hk ho hb h
   | exact vd0.keeps (x := SV.oel _ _ _) (v := v) hk ho hb h
   | exact vd0.keeps (x := SV.agg _) (v := v) hk ho hb h
   | exact vd0.keeps (x := SV.tup _) (v := v) hk ho hb h
   | exact vd0.keeps (x := SV.clo _ _ _) (v := v) hk ho hb h
   | exact vd0.keeps (x := SV.junk) (v := v) hk ho hb h
   | exact False.elim h
theorem vd2.keeps {E E' : Env} {R R' : List (Nat × Ent)} {w w' : World} (hk : Keeps E E' w w') {x : SV} {v : Value}
  (ho : ∀ k, deep2 (own0 k) x = true → E'.hs k = E.hs k ∧ entLike w' E' (E.hs k) (lk R k) (lk R' k)) (hb : ∀ k, deep2 (box0 k) x = true → E'.bs k = E.bs k) (h : vd2 E R w x v) : vd2 E' R' w' x v := by
 cases x with
 | agg cs =>
   obtain ⟨us, hv, hl⟩ := h
   exact ⟨us, hv, hl.mono fun y u hy hp => vd1.keeps hk (fun k hy' => ho k (anyL_of_mem hy hy')) (fun k hy' => hb k (anyL_of_mem hy hy')) hp⟩
 | _ =>
   first
   | exact vd1.keeps (x := SV.int _ _) (v := v) hk ho hb h
   | exact vd1.keeps (x := SV.bool _) (v := v) hk ho hb h
   | exact vd1.keeps (x := SV.lit _) (v := v) hk ho hb h
   | exact vd1.keeps (x := SV.str _) (v := v) hk ho hb h
   | exact vd1.keeps (x := SV.row _ _) (v := v) hk ho hb h
   | exact vd1.keeps (x := SV.nilS _) (v := v) hk ho hb h
   | exact vd1.keeps (x := SV.pre _ _ _) (v := v) hk ho hb h
   | exact vd1.keeps (x := SV.own _) (v := v) hk ho hb h
   | exact vd1.keeps (x := SV.box _ _) (v := v) hk ho hb h
   | exact vd1.keeps (x := SV.pt _ _) (v := v) hk ho hb h
   | exact vd1.keeps (x := SV.oel _ _ _) (v := v) hk ho hb h
   | exact vd1.keeps (x := SV.agg _) (v := v) hk ho hb h
   | exact vd1.keeps (x := SV.tup _) (v := v) hk ho hb h
   | exact vd1.keeps (x := SV.clo _ _ _) (v := v) hk ho hb h
   | exact vd1.keeps (x := SV.junk) (v := v) hk ho hb h
   | exact False.elim h
theorem vd3.keeps {E E' : Env} {R R' : List (Nat × Ent)} {w w' : World} (hk : Keeps E E' w w') {x : SV} {v : Value} (hn : Names E E' R R' w' x) (h : vd3 E R w x v) : vd3 E' R' w' x v := by
 cases x with
 | tup vs =>
   obtain ⟨us, hv, hl⟩ := h
   exact ⟨us, hv, hl.mono fun y u hy hp => vd2.keeps hk (fun k hy' => hn.own k (anyL_of_mem hy hy')) (fun k hy' => hn.box k (anyL_of_mem hy hy')) hp⟩
 | _ =>
   first
   | exact vd2.keeps (x := SV.int _ _) (v := v) hk hn.own hn.box h
   | exact vd2.keeps (x := SV.bool _) (v := v) hk hn.own hn.box h
   | exact vd2.keeps (x := SV.lit _) (v := v) hk hn.own hn.box h
   | exact vd2.keeps (x := SV.str _) (v := v) hk hn.own hn.box h
   | exact vd2.keeps (x := SV.row _ _) (v := v) hk hn.own hn.box h
   | exact vd2.keeps (x := SV.nilS _) (v := v) hk hn.own hn.box h
   | exact vd2.keeps (x := SV.pre _ _ _) (v := v) hk hn.own hn.box h
   | exact vd2.keeps (x := SV.own _) (v := v) hk hn.own hn.box h
   | exact vd2.keeps (x := SV.box _ _) (v := v) hk hn.own hn.box h
   | exact vd2.keeps (x := SV.pt _ _) (v := v) hk hn.own hn.box h
   | exact vd2.keeps (x := SV.oel _ _ _) (v := v) hk hn.own hn.box h
   | exact vd2.keeps (x := SV.agg _) (v := v) hk hn.own hn.box h
   | exact vd2.keeps (x := SV.tup _) (v := v) hk hn.own hn.box h
   | exact vd2.keeps (x := SV.clo _ _ _) (v := v) hk hn.own hn.box h
   | exact vd2.keeps (x := SV.junk) (v := v) hk hn.own hn.box h
   | exact False.elim h
theorem Names.all {E E' : Env} {R R' : List (Nat × Ent)} {w' : World} {v : SV} (ho : ∀ k, E'.hs k = E.hs k ∧ entLike w' E' (E.hs k) (lk R k) (lk R' k)) (hb : ∀ k, E'.bs k = E.bs k) : Names E E' R R' w' v := ⟨fun k _ => ho k, fun k _ => hb k⟩
theorem Names.refl (E : Env) (R : List (Nat × Ent)) (w' : World) (v : SV) : Names E E R R w' v := ⟨fun _ _ => ⟨rfl, entLike.refl _ _ _ _⟩, fun _ _ => rfl⟩
theorem lkv_junk_of_has {p : SV → Bool} {f : List (Nat × SV)} (h : frHas p f = false) (t : Nat) (hj : p .junk = false) : deep3 p (lkv f t) = false := by
 induction f with
 | nil => simpa [lkv, deep3, deep2, deep1] using hj
 | cons x f ih =>
   obtain ⟨k, v⟩ := x
   simp only [frHas] at h
   simp only [lkv]
   split
   · split at h
     · simp at h
     · rename_i hv; simpa using hv
   · split at h
     · simp at h
     · exact ih h
theorem FrD.keeps {E E' : Env} {R R' : List (Nat × Ent)} {w w' : World} (hk : Keeps E E' w w') {f : List (Nat × SV)} {a : Array Value} (h : FrD E R w f a) (hn : ∀ t, Names E E' R R' w' (lkv f t)) : FrD E' R' w' f a :=
 fun t => vd3.keeps hk (hn t) (h t)
theorem lkv_kill (k : Nat) (f : List (Nat × SV)) (t : Nat) : lkv (killF k f) t = killV k (lkv f t) := by
 induction f with
 | nil => simp [killF, lkv, killV, deep3, deep2, deep1, own0]
 | cons x f ih =>
   obtain ⟨j, v⟩ := x
   simp only [killF, lkv]
   split
   · rfl
   · exact ih
theorem killV_own (k : Nat) (v : SV) : deep3 (own0 k) (killV k v) = false := by
 unfold killV
 split
 · simp [deep3, deep2, deep1, own0]
 · rename_i h; exact h
theorem vd3.kill {E : Env} {R : List (Nat × Ent)} {w : World} {x : SV} {v : Value} (k : Nat) (h : vd3 E R w x v) : vd3 E R w (killV k x) v := by
 unfold killV
 split
 · trivial
 · exact h
theorem FrD.kill {E : Env} {R : List (Nat × Ent)} {w : World} {f : List (Nat × SV)} {a : Array Value} (k : Nat) (h : FrD E R w f a) : FrD E R w (killF k f) a := by
 intro t
 rw [lkv_kill]
 exact (h t).kill k
theorem FrD.put {E : Env} {R : List (Nat × Ent)} {w : World} {f : List (Nat × SV)} {a : Act} {d : Nat} {x : SV} {v : Value} (h : FrD E R w f a.tmps) (hx : vd3 E R w x v) (hd : d < a.tmps.size) :
  FrD E R w ((d, x) :: f) (a.put (some d) v).tmps := by
 intro t
 simp only [lkv, Act.put]
 by_cases ht : d = t
 · subst ht
   rw [show Nat.beq d d = true from Nat.beq_refl d]
   simp only [Array.getD_eq_getD_getElem?, Array.getElem?_setIfInBounds_self_of_lt hd]
   exact hx
 · have : Nat.beq d t = false := by
    cases hb : Nat.beq d t with
    | false => rfl
    | true => exact absurd (Nat.eq_of_beq_eq_true hb) ht
   rw [this]
   have := h t
   simpa only [Array.getD_eq_getD_getElem?, Array.getElem?_setIfInBounds_ne ht] using this
theorem FrD.skip {E : Env} {R : List (Nat × Ent)} {w : World} {f : List (Nat × SV)} {a : Act} {v : Value} (h : FrD E R w f a.tmps) : FrD E R w f (a.put none v).tmps := h
def Fit : SV → SV → Prop
 | .int k n, .int k' n' => k = k' ∧ n = n'
 | .bool b, .bool b' => b = b'
 | .lit b, .bool b' => b = b'
 | .str s, .str s' => s = s'
 | .row _ r, .row _ r' => r = r' ∧ r.flat = true
 | .nilS r, .row _ r' => r = r' ∧ r.flat = true
 | _, _ => False
def FitL (c c' : List SV) : Prop := c.length = c'.length ∧ ∀ (j : Nat) x, c'[j]? = some x → ∃ y, c[j]? = some y ∧ Fit y x
theorem FitL.nil : FitL [] [] := ⟨rfl, fun j x h => by simp at h⟩
theorem FitL.cons {x y : SV} {c c' : List SV} (h : Fit y x) (hl : FitL c c') : FitL (y :: c) (x :: c') := by
 refine ⟨by simp [hl.1], fun j z hz => ?_⟩
 cases j with
 | zero => simp at hz; subst hz; exact ⟨y, by simp, h⟩
 | succ j => simpa using hl.2 j z (by simpa using hz)
end Go.Proofs.YtjjpakdlkjaigaaGreat

/- A symbolic executor for loaded Go code: its steps. Definitions alone. -/
namespace Go.Proofs.YtjjpakdlkjaigaaGreat
open Go.RowKit
inductive Out where
 | ok (v : SV) (rows : List Rw)
 | ob (p : Prop) (v : SV) (rows : List Rw)
 | bad
abbrev Spec := List SV → Out
abbrev CallT := List SV → St → (SV → St → Prop) → Prop
structure Ctx where
 spec : FuncId → Option Spec
 tr : FuncId → Option CallT
def forceE {α : Type} (e : Ent) (K : Ent → α) : α := match e with
 | .own r => K (.own r)
 | .part lo r => K (.part lo r)
 | .shared t r => K (.shared t r)
def forceR {α : Type} : List (Nat × Ent) → (List (Nat × Ent) → α) → α
 | [], K => K []
 | (t, e) :: l, K => forceE e fun e' => forceR l fun l' => K ((t, e') :: l')
theorem forceR_eq {α : Type} (l : List (Nat × Ent)) (K : List (Nat × Ent) → α) : forceR l K = K l := by
 induction l generalizing K with
 | nil => rfl
 | cons x l ih =>
   obtain ⟨t, e⟩ := x
   cases e <;> simp only [forceR, forceE, ih]
def demote1 (R : List (Nat × Ent)) (k : Nat) : List (Nat × Ent) := match lk R k with
 | some e => match e.row with
   | (t, r) => upd R k (.shared t r)
 | none => R
def demoteL : List SV → List (Nat × Ent) → List (Nat × Ent)
 | [], R => R
 | .own k :: l, R => demoteL l (demote1 R k)
 | _ :: l, R => demoteL l R
def Tag.isNew : Tag → Bool
 | .new => true
 | _ => false
def allNew : List SV → Bool
 | [] => true
 | .row t _ :: l => match t with
   | .new => allNew l
   | _ => false
 | .own _ :: _ => false
 | .box _ _ :: _ => false
 | _ :: l => allNew l
def loStep (lo : Nat) (i : Int) : Nat := if i = lo then lo + 1 else lo
def chunks {α : Type} (n : Nat) : Nat → List α → List (List α)
 | 0, _ => []
 | m + 1, l => l.take n :: chunks n m (l.drop n)
def flatZeros (z : List SV) : Nat → List SV
 | 0 => []
 | n + 1 => z ++ flatZeros z n
def oneOk (R : List (Nat × Ent)) : SV → Bool
 | .junk => false
 | .agg _ => false
 | .tup _ => false
 | .own k => match lk R k with
   | some _ => true
   | none => false
 | .oel k _ _ => match lk R k with
   | some (.own _) => true
   | some (.part _ _) => true
   | _ => false
 | _ => true
def allOne (R : List (Nat × Ent)) : List SV → Bool
 | [] => true
 | v :: l => match oneOk R v with
   | true => allOne R l
   | false => false
def resS (R : List (Nat × Ent)) : SV → SV
 | .own k => match lk R k with
   | some (.shared t r) => .row t r
   | _ => .junk
 | v => v
def resSL (R : List (Nat × Ent)) : List SV → List SV
 | [] => []
 | v :: l => resS R v :: resSL R l
def lay {α : Type} (bad : α) (τ : Tys) (s : St) (place : Nat → Option (Nat × TypeId)) : List (Nat × Operand) → List SV → (List SV → α) → α
 | [], cs, K => K cs
 | (i, x) :: l, cs, K => match place i with
   | some (off, T) => (getT τ s T x).force fun v =>
     match Nat.beq v.cells.length (τ.sz T), Nat.ble (off + τ.sz T) cs.length, allOne s.rows v.cells, τ.ti T with
     | true, true, true, some _ => forceL (setRange cs off v.cells) fun cs' => lay bad τ s place l cs' K
     | _, _, _, _ => bad
   | none => bad
def rawN (τ : Tys) (s : St) : List Operand → List TypeId → List SV
 | x :: xs, T :: Ts => rawT τ s T x :: rawN τ s xs Ts
 | x :: xs, [] => s.raw x :: rawN τ s xs []
 | [], _ => []
def getN (τ : Tys) (s : St) : List Operand → List TypeId → List SV
 | x :: xs, T :: Ts => getT τ s T x :: getN τ s xs Ts
 | x :: xs, [] => s.get x :: getN τ s xs []
 | [], _ => []
def renum0 (kb : Nat) : SV → SV
 | .own i => .own (kb + 100000 * i)
 | v => v
def renumL (f : SV → SV) : List SV → List SV
 | [] => []
 | v :: l => f v :: renumL f l
def renum1 (kb : Nat) : SV → SV
 | .agg cs => .agg (renumL (renum0 kb) cs)
 | v => renum0 kb v
def renum2 (kb : Nat) : SV → SV
 | .tup vs => .tup (renumL (renum1 kb) vs)
 | v => renum1 kb v
def allB (p : SV → Bool) : List SV → Bool
 | [] => true
 | v :: l => match p v with
   | true => allB p l
   | false => false
def keysFree (s : St) (kb : Nat) : Nat → Bool
 | 0 => true
 | n + 1 => match s.has (own0 (kb + 100000 * n)) with
   | true => false
   | false => keysFree s kb n
def keysOk (s : St) (kb : Nat) : List Rw → Nat → Bool
 | [], n => keysFree s kb n
 | _ :: l, n => keysOk s kb l (n + 1)
theorem keysOk_eq {s : St} {kb : Nat} : ∀ (l : List Rw) (n : Nat), keysOk s kb l n = keysFree s kb (n + l.length)
 | [], n => rfl
 | _ :: l, n => by rw [keysOk, keysOk_eq l]; congr 1; simp only [List.length_cons]; omega
theorem keysOk_eq0 {s : St} {kb : Nat} (l : List Rw) : keysOk s kb l 0 = keysFree s kb l.length := by rw [keysOk_eq, Nat.zero_add]
def addRows (R : List (Nat × Ent)) (kb : Nat) : List Rw → Nat → List (Nat × Ent)
 | [], _ => R
 | r :: l, n => addRows (upd R (kb + 100000 * n) (.own r)) kb l (n + 1)
def resOk0 (n : Nat) : SV → Bool
 | .int _ _ => true
 | .bool _ => true
 | .lit _ => true
 | .str _ => true
 | .row t _ => t.isNew
 | .nilS _ => true
 | .own i => Nat.ble (i + 1) n
 | _ => false
def resOk1 (n : Nat) : SV → Bool
 | .agg cs => allB (resOk0 n) cs
 | v => resOk0 n v
def resOk2 (n : Nat) : SV → Bool
 | .tup vs => allB (resOk1 n) vs
 | v => resOk1 n v
def putRes (d : Option Tmp) (v : SV) (rows : List Rw) (K : St → RS) : St → RS
 | ⟨fr, stk, bx, rw, dep⟩ => match resOk2 rows.length v with
   | true => match d with
     | none => K ⟨fr, stk, bx, rw, dep⟩
     | some d => match keysOk ⟨fr, stk, bx, rw, dep⟩ (dep + d) rows 0 with
       | true => (renum2 (dep + d) v).force fun v => K ⟨(d, v) :: fr, stk, bx, addRows rw (dep + d) rows 0, dep⟩
       | false => match keysOk ⟨fr, stk, bx, rw, dep⟩ (dep + d + 50000) rows 0 with
         | true => (renum2 (dep + d + 50000) v).force fun v => K ⟨(d, v) :: fr, stk, bx, addRows rw (dep + d + 50000) rows 0, dep⟩
         | false => .bad
   | false => .bad
def Rw.lenK {α : Type} (r : Rw) (K : Nat → α) : α := match r with
 | .ints l => K l.length
 | .bytes l => K l.length
 | .strs l => K l.length
 | .peers l => K l.length
 | .items l => K l.length
 | .tolds l => K l.length
 | .cuts l => K l.length
 | .msgs l => K l.length
 | .nodes l => K l.length
 | .acts l => K l.length
 | .intss l => K l.length
 | .bools l => K l.length
theorem Rw.lenK_eq {α : Type} (r : Rw) (K : Nat → α) : r.lenK K = K r.len := by cases r <;> rfl
def lenOf (R : List (Nat × Ent)) : SV → Option Nat
 | .str s => some s.size
 | .row _ r => r.lenK some
 | .nilS _ => some 0
 | .pre _ _ n => some n
 | .own k => match lk R k with
   | some e => match e.row with
     | (_, r) => r.lenK some
   | none => none
 | _ => none
def bound (τ : Tys) (s : St) (d : Int) : Option Operand → Option Int
 | none => some d
 | some x => match s.get x with
   | .int _ n => some n
   | _ => none
def falses : List SV → Nat → Bool
 | [], 0 => true
 | .bool false :: l, n + 1 => falses l n
 | _, _ => false
def arrB (τ : Tys) (T : TypeId) (i : TI) : Option Nat := match i.td with
 | .arr n _ => match Nat.beq T (τ.et 11) with
   | true => match falses i.zero n, Nat.blt 0 n, Nat.blt n 16777216 with
     | true, true, true => some n
     | _, _, _ => none
   | false => none
 | _ => none
def stepAlloc (τ : Tys) (T : TypeId) (d : Option Tmp) : St → RS
 | ⟨fr, stk, bx, rw, dep⟩ => match d, τ.ti T with
   | some d, some i => match arrB τ T i with
     | some n => match St.has (own0 (dep + d)) ⟨fr, stk, bx, rw, dep⟩ with
       | false => .ok ⟨(d, .oel (dep + d) 0 0) :: fr, stk, bx, upd rw (dep + d) (.own (.bools (List.replicate n false))), dep⟩
       | true => .bad
     | none => match St.has (box0 (dep + d)) ⟨fr, stk, bx, rw, dep⟩ with
       | false => forceL i.zero fun cs => forceB (upd bx (dep + d) (T, cs)) fun bx' => .ok ⟨(d, .box (dep + d) 0) :: fr, stk, bx', rw, dep⟩
       | true => .bad
   | _, _ => .bad
def stepBox (τ : Tys) (T : TypeId) (x : Operand) (d : Option Tmp) : St → RS
 | ⟨fr, stk, bx, rw, dep⟩ => match d with
   | some d => match St.has (box0 (dep + d)) ⟨fr, stk, bx, rw, dep⟩ with
     | false => (getT τ ⟨fr, stk, bx, rw, dep⟩ T x).force fun v => match allOne rw v.cells with
       | true => forceL v.cells fun cs => forceB (upd bx (dep + d) (T, cs)) fun bx' => .ok ⟨(d, .box (dep + d) 0) :: fr, stk, bx', rw, dep⟩
       | false => .bad
     | true => .bad
   | none => .bad
def evBuild (τ : Tys) (s : St) (T : TypeId) (parts : Array (Nat × Operand)) : RV :=
 match τ.ti T with
 | some i => match i.td with
   | .struct fs => lay .bad τ s (fun i => nth fs i) parts.toList i.zero fun cs => .ok (.agg cs)
   | .arr _ e => lay .bad τ s (fun i => some (i * τ.sz e, e)) parts.toList i.zero fun cs => .ok (.agg cs)
   | _ => .bad
 | none => .bad
def stepLit (τ : Tys) (T : TypeId) (n : Nat) (parts : Array (Nat × Operand)) (d : Option Tmp) : St → RS
 | ⟨fr, stk, bx, rw, dep⟩ => match τ.td T, d with
   | .slice e, some d => match τ.rk e, τ.ti e, Nat.ble (n * τ.sz e) 16777216, St.has (own0 (dep + d)) ⟨fr, stk, bx, rw, dep⟩ with
     | some k, some i, true, false => lay .bad τ ⟨fr, stk, bx, rw, dep⟩ (fun i => some (i * τ.sz e, e)) parts.toList (flatZeros i.zero n) fun cs =>
       forceR (demoteL cs rw) fun R => forceL (resSL R cs) fun cs' => match mkRow k (chunks (τ.sz e) n cs') with
        | some r => match r.flat, allNew cs' with
          | true, _ => .ok ⟨(d, .own (dep + d)) :: fr, stk, bx, upd R (dep + d) (.own r), dep⟩
          | false, true => .ok ⟨(d, .own (dep + d)) :: fr, stk, bx, upd R (dep + d) (.own r), dep⟩
          | false, false => .ok ⟨(d, .own (dep + d)) :: fr, stk, bx, upd R (dep + d) (.part 0 r), dep⟩
        | none => .bad
     | _, _, _, _ => .bad
   | _, _ => .bad
def retag (t : Tag) : List SV → List SV
 | [] => []
 | .row _ r :: l => .row t r :: retag t l
 | v :: l => v :: retag t l
def evLoad (τ : Tys) (s : St) (T : TypeId) (x : SV) : RV :=
 match x with
 | .box k off => match lk s.boxes k with
   | some (_, cs) => part' τ T cs off
   | none => .bad
 | .pt t cs => forceL (retag t cs) fun cs => part' τ T cs 0
 | .oel k i off => match lk s.rows k with
   | some (.own r) => part' τ T (r.cell .new i.toNat) off
   | some (.part _ r) => part' τ T (r.cell .any i.toNat) off
   | _ => .bad
 | _ => .bad
def stepStore (τ : Tys) (T : TypeId) (x v : Operand) : St → RS
 | ⟨fr, stk, bx, rw, dep⟩ => (St.get ⟨fr, stk, bx, rw, dep⟩ x).force fun p => (getT τ ⟨fr, stk, bx, rw, dep⟩ T v).force fun v =>
   match Nat.beq v.cells.length (τ.sz T), allOne rw v.cells, τ.ti T with
   | true, true, some _ => match p with
     | .box k off => match lk bx k with
       | some (T', cs) => match Nat.ble (off + τ.sz T) cs.length with
         | true => forceB (upd bx k (T', setRange cs off v.cells)) fun bx' => .ok ⟨fr, stk, bx', rw, dep⟩
         | false => .bad
       | none => .bad
     | .oel k i off => forceR (demoteL v.cells rw) fun R => forceL (resSL R v.cells) fun vs => match lk R k with
        | some (.own r) => match r.setE i.toNat (setRange (r.cell .new i.toNat) off vs), allNew vs, Nat.ble (off + τ.sz T) (kdSz r.kd) with
          | some r', true, true => .ok ⟨fr, stk, bx, upd R k (.own r'), dep⟩
          | _, false, true => match r.setE i.toNat (setRange (r.cell .any i.toNat) off vs) with
            | some r' => .ok ⟨fr, stk, bx, upd R k (.part 0 r'), dep⟩
            | none => .bad
          | _, _, _ => .bad
        | some (.part lo r) => match r.setE i.toNat (setRange (r.cell .any i.toNat) off vs), Nat.ble (off + τ.sz T) (kdSz r.kd) with
          | some r', true => match allNew (setRange (r.cell .any i.toNat) off vs) with
            | true => .ok ⟨fr, stk, bx, upd R k (.part (loStep lo i) r'), dep⟩
            | false => match allNew vs with
              | true => .ok ⟨fr, stk, bx, upd R k (.part lo r'), dep⟩
              | false => .ok ⟨fr, stk, bx, upd R k (.part 0 r'), dep⟩
          | _, _ => .bad
        | _ => .bad
     | _ => .bad
   | _, _, _ => .bad
def evField (τ : Tys) (s : St) (S : TypeId) (j : Nat) (x : SV) : RV :=
 match τ.td S with
 | .struct fs => match nth fs j with
   | some (o, F) => match Nat.beq (τ.sz F) 0 with
     | true => .bad
     | false => match x with
       | .box k off => .ok (.box k (off + o))
       | .pt t cs => forceL (cut cs o (τ.sz F)) fun cs' => .ok (.pt t cs')
       | .oel k i off => match lk s.rows k with
         | some (.own _) => .ok (.oel k i (off + o))
         | some (.part _ _) => .ok (.oel k i (off + o))
         | _ => .bad
       | _ => .bad
   | none => .bad
 | _ => .bad
def evPart (τ : Tys) (S : TypeId) (j : Nat) (x : SV) : RV :=
 match τ.td S, x with
 | .struct fs, .agg cs => match nth fs j with
   | some (o, F) => part' τ F cs o
   | none => .bad
 | _, _ => .bad
def evIndexAddr (τ : Tys) (s : St) (T : TypeId) (x i : SV) : RV :=
 match τ.td T, i with
 | .slice e, .int _ i => match x with
   | .row t r => match Nat.beq (τ.sz e) r.sz with
     | true => r.lenK fun n => .ob (0 ≤ i ∧ i < n) (.pt t (r.cell t i.toNat))
     | false => .bad
   | .own k => match lk s.rows k with
     | some (.own r) => match Nat.beq (τ.sz e) r.sz with
       | true => r.lenK fun n => .ob (0 ≤ i ∧ i < n) (.oel k i 0)
       | false => .bad
     | some (.part _ r) => match Nat.beq (τ.sz e) r.sz with
       | true => r.lenK fun n => .ob (0 ≤ i ∧ i < n) (.oel k i 0)
       | false => .bad
     | some (.shared t r) => match Nat.beq (τ.sz e) r.sz with
       | true => r.lenK fun n => .ob (0 ≤ i ∧ i < n) (.pt t (r.cell t i.toNat))
       | false => .bad
     | none => .bad
   | _ => .bad
 | .arr n e, .int _ j => match x with
   | .oel k i0 off => match decide (i0 = 0), off, Nat.beq (τ.sz e) 1, Nat.blt 1 n with
     | true, 0, true, true => match lk s.rows k with
       | some (.own r) => match r with
         | .bools xs => .ob (0 ≤ j ∧ j < n ∧ n ≤ xs.length) (.oel k j 0)
         | _ => .bad
       | _ => .bad
     | _, _, _, _ => .bad
   | .box k off => match Nat.blt 1 n, τ.ti e with
     | true, some _ => .ob (0 ≤ j ∧ j < n) (.box k (off + j.toNat * τ.sz e))
     | _, _ => .bad
   | _ => .bad
 | _, _ => .bad
noncomputable def evIndex (τ : Tys) (T : TypeId) (x i : SV) : RV :=
 match τ.td T, x, i with
 | .str, .str s, .int _ i => .ob (0 ≤ i ∧ i < s.size) (.int .u8 (byteAt s i.toNat))
 | _, _, _ => .bad
def stepSlice (τ : Tys) (T : TypeId) (x : Operand) (lo hi mx : Option Operand) (d : Option Tmp) (s : St) : RS :=
 match mx with
 | some _ => .bad
 | none => (s.raw x).force fun x => match lenOf s.rows x with
   | some n => match bound τ s 0 lo, bound τ s n hi with
     | some l, some h => match τ.td T, x with
       | .str, .str b => .ob (0 ≤ l ∧ l ≤ h ∧ h ≤ n) (putv d (.str (b.extract l.toNat h.toNat)) s)
       | .slice e, .row t r => match Nat.beq (τ.sz e) r.sz with
         | true => .ob (0 ≤ l ∧ l ≤ h ∧ h ≤ n) (putv d (.row t (r.sub l.toNat h.toNat)) s)
         | false => .bad
       | .slice e, .pre t r _ => match Nat.beq (τ.sz e) r.sz with
         | true => .ob (0 ≤ l ∧ l ≤ h ∧ h ≤ r.len) (putv d (.row t (r.sub l.toNat h.toNat)) s)
         | false => .bad
       | .slice e, .own k => match s with
         | ⟨fr, stk, bx, rw, dep⟩ => match demote1 rw k with
           | R => match lk R k with
             | some (.shared t r) => match Nat.beq (τ.sz e) r.sz with
               | true => match stk, lo with
                 | _ :: _, none => .ob (0 ≤ l ∧ l ≤ h ∧ h ≤ n) (putv d (.pre t r h.toNat) ⟨fr, stk, bx, R, dep⟩)
                 | _, _ => .ob (0 ≤ l ∧ l ≤ h ∧ h ≤ n) (putv d (.row t (r.sub l.toNat h.toNat)) ⟨fr, stk, bx, R, dep⟩)
               | false => .bad
             | _ => .bad
       | _, _ => .bad
     | _, _ => .bad
   | none => .bad
def srcOf (R : List (Nat × Ent)) : SV → Option (Tag × Rw)
 | .row t r => some (t, r)
 | .nilS r => some (.new, r)
 | .own k => match lk R k with
   | some e => some e.row
   | none => none
 | _ => none
def tagOk (t : Tag) (r : Rw) : Bool := match r.flat with
 | true => true
 | false => t.isNew
def stepAppend (τ : Tys) (T : TypeId) (x y : Operand) (d : Option Tmp) : St → RS
 | ⟨fr, stk, bx, rw, dep⟩ => match τ.td T, d with
   | .slice e, some d => (getT τ ⟨fr, stk, bx, rw, dep⟩ T x).force fun x => (getT τ ⟨fr, stk, bx, rw, dep⟩ T y).force fun y => match srcOf rw y, τ.rk e with
     | some (t, r2), some kd => match Nat.beq r2.kd kd with
       | true => match x with
         | .nilS r1 => match Nat.beq r1.kd kd, r1.app r2, St.has (own0 (dep + d)) ⟨fr, stk, bx, rw, dep⟩ with
           | true, some r, false => match tagOk t r2 with
             | true => .ob (r2.len * r2.bts ≤ 140737488355328) ⟨(d, .own (dep + d)) :: fr, stk, bx, upd rw (dep + d) (.own r), dep⟩
             | false => .ob (r2.len * r2.bts ≤ 140737488355328) ⟨(d, .own (dep + d)) :: fr, stk, bx, upd rw (dep + d) (.part 0 r), dep⟩
           | _, _, _ => .bad
         | .own k => match lk rw k with
           | some (.own r1) => match Nat.beq r1.kd kd, r1.app r2, tagOk t r2 with
             | true, some r, true => forceF (killF k fr) fun fr' => forceS (killS k stk) fun stk' => forceB (killB k bx) fun bx' =>
               .ob ((r1.len + r2.len) * r2.bts ≤ 140737488355328) ⟨(d, .own k) :: fr', stk', bx', upd rw k (.own r), dep⟩
             | true, some r, false => forceF (killF k fr) fun fr' => forceS (killS k stk) fun stk' => forceB (killB k bx) fun bx' =>
               .ob ((r1.len + r2.len) * r2.bts ≤ 140737488355328) ⟨(d, .own k) :: fr', stk', bx', upd rw k (.part r1.len r), dep⟩
             | _, _, _ => .bad
           | some (.part lo r1) => match Nat.beq r1.kd kd, r1.app r2 with
             | true, some r => forceF (killF k fr) fun fr' => forceS (killS k stk) fun stk' => forceB (killB k bx) fun bx' =>
               .ob ((r1.len + r2.len) * r2.bts ≤ 140737488355328 ∧ lo ≤ r1.len) ⟨(d, .own k) :: fr', stk', bx', upd rw k (.part lo r), dep⟩
             | _, _ => .bad
           | _ => .bad
         | _ => .bad
       | false => .bad
     | _, _ => .bad
   | _, _ => .bad
def bytesOf : List Int → List UInt8
 | [] => []
 | x :: l => UInt8.ofNat x.toNat :: bytesOf l
def evConv (τ : Tys) (s : St) (src dst : TypeId) (x : SV) : RV :=
 match τ.td dst with
 | .int k' => match x, τ.td src with
   | .int _ n, .int _ => .ok (.int k' (k'.wrap n))
   | _, _ => .bad
 | .str => match τ.td src with
   | .str => match x with
     | .str b => .ok (.str b)
     | _ => .bad
   | .slice e => match τ.td e with
     | .int .u8 => match x with
       | .own k => match lk s.rows k with
         | some e => match e.row with
           | (_, .bytes xs) => .ok (.str ⟨(bytesOf xs).toArray⟩)
           | _ => .bad
         | none => .bad
       | .row _ (.bytes xs) => .ok (.str ⟨(bytesOf xs).toArray⟩)
       | _ => .bad
     | _ => .bad
   | _ => .bad
 | _ => .bad
def bytesL (b : ByteArray) : List Int := b.toList.map fun x => (x.toNat : Int)
def stepBytes (τ : Tys) (src dst : TypeId) (x : Operand) (d : Option Tmp) (s : St) : RS := match τ.td dst, τ.td src with
 | .slice e, .str => match τ.td e with
   | .int .u8 => (s.get x).force fun x => match x with
     | .str b => .ob (b.size ≤ 140737488355328) (putv d (.row .new (.bytes (bytesL b))) s)
     | _ => .bad
   | _ => .bad
 | _, _ => .bad
def evCheck (s : St) (x : SV) : RV :=
 match x with
 | .box k off => .ok (.box k off)
 | .pt t cs => .ok (.pt t cs)
 | .oel k i off => match lk s.rows k with
   | some (.own _) => .ok (.oel k i off)
   | some (.part _ _) => .ok (.oel k i off)
   | _ => .bad
 | .clo f a c => .ok (.clo f a c)
 | _ => .bad
def evExtract (x : SV) (j : Nat) : RV :=
 match x with
 | .tup vs => match nth vs j with
   | some v => .ok v
   | none => .bad
 | _ => .bad
def capOk : SV → Bool
 | .agg _ => false
 | .tup _ => false
 | .clo _ _ _ => false
 | _ => true
def firstOk : SV → Bool
 | .agg cs => go cs
 | v => capOk v
where go : List SV → Bool
 | [] => true
 | v :: l => match capOk v with
   | true => go l
   | false => false
def evFunc (fn : Fn) (a c : List SV) : RV :=
 match fn with
 | .func f => match allB firstOk a, allB capOk c with
   | true, true => forceL a fun a => forceL c fun c => .ok (.clo f a c)
   | _, _ => .bad
 | _ => .bad
def evMin (op : Builtin) (x y : SV) : RV :=
 match op, x, y with
 | .min, .int k a, .int _ b => .ok (.int k (if b < a then b else a))
 | .max, .int k a, .int _ b => .ok (.int k (if b > a then b else a))
 | _, _, _ => .bad
def stepMake (τ : Tys) (T : TypeId) (n : Operand) (d : Option Tmp) : St → RS
 | ⟨fr, stk, bx, rw, dep⟩ => match τ.td T, d with
   | .slice e, some d => match τ.rk e, St.get ⟨fr, stk, bx, rw, dep⟩ n, St.has (own0 (dep + d)) ⟨fr, stk, bx, rw, dep⟩ with
     | some kd, .int .i64 n, false => .ob (0 ≤ n ∧ n * kdBytes kd ≤ 140737488355328) ⟨(d, .own (dep + d)) :: fr, stk, bx, upd rw (dep + d) (.own (Rw.zeros kd n.toNat)), dep⟩
     | _, _, _ => .bad
   | _, _ => .bad
def sameOp : Operand → Operand → Bool
 | .tmp a, .tmp b => Nat.beq a b
 | .const (.int .i64 a), .const (.int .i64 b) => decide (a = b)
 | _, _ => false
theorem sameOp_eq {x y : Operand} (h : sameOp x y = true) : x = y := by
 unfold sameOp at h
 split at h
 · rw [Nat.eq_of_beq_eq_true h]
 · rw [of_decide_eq_true h]
 · simp at h
def stepCall (τ : Tys) (C : Ctx) (c : Call) (d : Option Tmp) (s : St) : RS :=
 match c.callee with
 | .builtin .len => match c.args.toList, c.argTypes.toList with
   | [x], [T] => (s.get x).force fun x => match lenOf s.rows x, τ.td T, x with
     | some n, .str, .str _ => .ok (putv d (.int .i64 n) s)
     | some n, .slice _, .row _ _ => .ok (putv d (.int .i64 n) s)
     | some n, .slice _, .own _ => .ok (putv d (.int .i64 n) s)
     | some n, .slice _, .nilS _ => .ok (putv d (.int .i64 n) s)
     | _, _, _ => .bad
   | _, _ => .bad
 | .builtin .append => match c.args.toList, c.argTypes.toList with
   | [x, y], [T, T'] => match Nat.beq T T' with
     | true => stepAppend τ T x y d s
     | false => .bad
   | _, _ => .bad
 | .builtin .min => match c.args.toList with
   | [x, y] => (s.get x).force fun x => (s.get y).force fun y => (evMin .min x y).to d s
   | _ => .bad
 | .builtin .max => match c.args.toList with
   | [x, y] => (s.get x).force fun x => (s.get y).force fun y => (evMin .max x y).to d s
   | _ => .bad
 | .value f => (s.get f).force fun f => match f with
   | .clo g a cs => match C.spec g with
     | some sp => forceL (mapP (resA s) (a ++ getN τ s c.args.toList c.argTypes.toList ++ cs)) fun args => match sp args with
       | .ok v rows => putRes d v rows (fun s' => .ok s') s
       | .ob p v rows => putRes d v rows (fun s' => .ob p s') s
       | .bad => .bad
     | none => .bad
   | _ => .bad
 | _ => .bad
noncomputable def step (τ : Tys) (C : Ctx) (o : Oper) : St → RS
 | ⟨fr, stk, bx, rw, dep⟩ =>
 match o.op with
 | .move x => (RV.ok (rawT τ ⟨fr, stk, bx, rw, dep⟩ o.type x)).to o.dst ⟨fr, stk, bx, rw, dep⟩
 | .assign x => (RV.ok (rawT τ ⟨fr, stk, bx, rw, dep⟩ o.type x)).to o.dst ⟨fr, stk, bx, rw, dep⟩
 | .pick c a b => (St.get ⟨fr, stk, bx, rw, dep⟩ c).force fun c => (St.get ⟨fr, stk, bx, rw, dep⟩ a).force fun a => (St.get ⟨fr, stk, bx, rw, dep⟩ b).force fun b =>
   (evPick c a b).to o.dst ⟨fr, stk, bx, rw, dep⟩
 | .alloc T => stepAlloc τ T o.dst ⟨fr, stk, bx, rw, dep⟩
 | .box T x => stepBox τ T x o.dst ⟨fr, stk, bx, rw, dep⟩
 | .build T ps => (evBuild τ ⟨fr, stk, bx, rw, dep⟩ T ps).to o.dst ⟨fr, stk, bx, rw, dep⟩
 | .buildSlice T n ps => stepLit τ T n ps o.dst ⟨fr, stk, bx, rw, dep⟩
 | .load T x => (St.get ⟨fr, stk, bx, rw, dep⟩ x).force fun x => (evLoad τ ⟨fr, stk, bx, rw, dep⟩ T x).to o.dst ⟨fr, stk, bx, rw, dep⟩
 | .store T x v => match o.dst with
   | none => stepStore τ T x v ⟨fr, stk, bx, rw, dep⟩
   | some _ => .bad
 | .nilCheck x => (St.get ⟨fr, stk, bx, rw, dep⟩ x).force fun x => (evCheck ⟨fr, stk, bx, rw, dep⟩ x).to o.dst ⟨fr, stk, bx, rw, dep⟩
 | .binOp op T x y _ => (St.get ⟨fr, stk, bx, rw, dep⟩ x).force fun x => (St.get ⟨fr, stk, bx, rw, dep⟩ y).force fun y => (evBin τ T op x y).to o.dst ⟨fr, stk, bx, rw, dep⟩
 | .unOp op _ x => (St.get ⟨fr, stk, bx, rw, dep⟩ x).force fun x => (evUn op x).to o.dst ⟨fr, stk, bx, rw, dep⟩
 | .convert a b x => match τ.td b with
   | .slice _ => stepBytes τ a b x o.dst ⟨fr, stk, bx, rw, dep⟩
   | _ => (St.get ⟨fr, stk, bx, rw, dep⟩ x).force fun x => (evConv τ ⟨fr, stk, bx, rw, dep⟩ a b x).to o.dst ⟨fr, stk, bx, rw, dep⟩
 | .makeFunc fn a c => (evFunc fn (getN τ ⟨fr, stk, bx, rw, dep⟩ a.toList []) (getN τ ⟨fr, stk, bx, rw, dep⟩ c.toList [])).to o.dst ⟨fr, stk, bx, rw, dep⟩
 | .makeSlice T n c => match sameOp n c with
   | true => stepMake τ T n o.dst ⟨fr, stk, bx, rw, dep⟩
   | false => .bad
 | .slice T x lo hi mx => stepSlice τ T x lo hi mx o.dst ⟨fr, stk, bx, rw, dep⟩
 | .fieldAddr S x j => (St.get ⟨fr, stk, bx, rw, dep⟩ x).force fun x => (evField τ ⟨fr, stk, bx, rw, dep⟩ S j x).to o.dst ⟨fr, stk, bx, rw, dep⟩
 | .field S x j => (St.get ⟨fr, stk, bx, rw, dep⟩ x).force fun x => (evPart τ S j x).to o.dst ⟨fr, stk, bx, rw, dep⟩
 | .indexAddr T x i => (St.get ⟨fr, stk, bx, rw, dep⟩ x).force fun x => (St.get ⟨fr, stk, bx, rw, dep⟩ i).force fun i => (evIndexAddr τ ⟨fr, stk, bx, rw, dep⟩ T x i).to o.dst ⟨fr, stk, bx, rw, dep⟩
 | .index T x i => (St.get ⟨fr, stk, bx, rw, dep⟩ x).force fun x => (St.get ⟨fr, stk, bx, rw, dep⟩ i).force fun i => (evIndex τ T x i).to o.dst ⟨fr, stk, bx, rw, dep⟩
 | .extract x j => (St.get ⟨fr, stk, bx, rw, dep⟩ x).force fun x => (evExtract x j).to o.dst ⟨fr, stk, bx, rw, dep⟩
 | .call c => stepCall τ C c o.dst ⟨fr, stk, bx, rw, dep⟩
 | _ => .bad
end Go.Proofs.YtjjpakdlkjaigaaGreat

/- A symbolic executor for loaded Go code: its steps on values alone are the machine's. -/
namespace Go.Proofs.YtjjpakdlkjaigaaGreat
open Go.RowKit
def tdOk (d : TypeDesc) : TD → Prop
 | .int k => d = .int k
 | .bool => d = .bool
 | .str => d = .string
 | .slice e => d = .slice e
 | .struct fs => ∃ fa : Array Field, d = .struct fa ∧ ∀ j, nth fs j = (fa[j]?).map fun f => (f.offset, f.type)
 | .arr n e => d = .array n e
 | .other => match d with
   | .struct _ => False
   | .array _ _ => False
   | _ => True
structure TiOk (P : Program) (τ : Tys) (T : TypeId) (i : TI) : Prop where
 flds : ∀ fs, i.td = .struct fs → ∀ j p, nth fs j = some p → ∃ i', τ.ti p.2 = some i'
 elem : ∀ n e, i.td = .arr n e → ∃ i', τ.ti e = some i'
 info : ∃ x z, P.info? T = some x ∧ x.size = i.sz ∧ x.bytes = i.bytes ∧ x.zero = some z ∧ z.cells.size = i.sz ∧ ∀ E R w, L0 (vd0 E R w) i.zero z.cells.toList
 und : ∃ d, P.underlying T = some d ∧ tdOk d i.td
def EqOk (P : Program) (T : TypeId) (sh : List Nat) : Prop := ∀ (E : Env) (R : List (Nat × Ent)) (w : World) (a b : List SV) (us vs : List Value) (e : Bool), eqCells sh a b = some e → L0 (vd1 E R w) a us → L0 (vd1 E R w) b vs →
 (∀ op x y, (eqGuard op T x y (.agg us.toArray) (.agg vs.toArray)).run P w = .ok () w) ∧ (Op.equal T (.agg us.toArray) (.agg vs.toArray)).run P w = .ok e w
structure TysOk (P : Program) (τ : Tys) : Prop where
 ti : ∀ T i, τ.ti T = some i → TiOk P τ T i
 sh : ∀ T sh, τ.sh T = some sh → EqOk P T sh
 rk : ∀ e k, τ.rk e = some k → k < 12 ∧ τ.et k = e ∧ ∃ i, τ.ti e = some i ∧ i.sz = kdSz k ∧ i.bytes = kdBytes k ∧ FitL i.zero ((Rw.zeros k 1).cell .any 0) ∧ ∀ t r, SV.row t r ∉ i.zero
section
variable {P : Program} {τ : Tys} (hτ : TysOk P τ)
include hτ
theorem TysOk.td {T : TypeId} {d : TD} (h : τ.td T = d) (hd : d ≠ .other) : ∃ u, P.underlying T = some u ∧ tdOk u d := by
 unfold Tys.td at h
 split at h
 · rename_i i hi
   subst h
   exact (hτ.ti T i hi).und
 · exact absurd h.symm hd
theorem TysOk.slice {T e : TypeId} (h : τ.td T = .slice e) : P.underlying T = some (.slice e) := by
 obtain ⟨u, hu, hd⟩ := hτ.td h (by simp)
 rw [hu, show u = _ from hd]
theorem TysOk.arr {T e : TypeId} {n : Nat} (h : τ.td T = .arr n e) : P.underlying T = some (.array n e) := by
 obtain ⟨u, hu, hd⟩ := hτ.td h (by simp)
 rw [hu, show u = _ from hd]
theorem TysOk.arrElem {T e : TypeId} {n : Nat} (h : τ.td T = .arr n e) : ∃ i', τ.ti e = some i' := by
 unfold Tys.td at h
 split at h
 · rename_i i hi
   exact (hτ.ti T i hi).elem n e h
 · simp at h
theorem TysOk.szOf {T : TypeId} {i : TI} (h : τ.ti T = some i) (w : World) : (sizeOf T).run P w = .ok (τ.sz T) w := by
 obtain ⟨x, z, hx, hs, _⟩ := (hτ.ti T i h).info
 simp [sizeOf, typeInfo, hx, hs, Tys.sz, h]
theorem TysOk.isAgg {T : TypeId} {i : TI} (h : τ.ti T = some i) (w : World) : (isAgg T).run P w = .ok (τ.agg T) w := by
 obtain ⟨d, hu, hd⟩ := (hτ.ti T i h).und
 simp only [Go.isAgg, Sem.run_bind, run_underlying hu, Result.andThen_ok, Tys.agg, Tys.td, h]
 cases htd : i.td <;> rw [htd] at hd <;> simp only [tdOk] at hd <;> first
  | (subst hd; rfl)
  | (obtain ⟨fa, rfl, _⟩ := hd; rfl)
  | (cases d <;> first | rfl | exact hd.elim)
end
theorem len_mkEmpty (k : Nat) : (mkEmpty k).len = 0 := by unfold mkEmpty; split <;> rfl
theorem vd_ofVal (E : Env) (R : List (Nat × Ent)) (w : World) (v : Value) : vd3 E R w (SV.ofVal v) v := by cases v <;> first | rfl | trivial
section
variable {P : Program} {τ : Tys} {w0 : World} {E : Env} {s : St} {aS : List (Array Value)} {a : Act} {w : World}
theorem cook_vd {R : List (Nat × Ent)} {x : SV} {v : Value} (h : vd3 E R w x v) : vd3 E R w x.cook v := by
 cases x with
 | pre t r n => obtain ⟨A, c, rfl, hn, hd⟩ := h; exact RowDen.pre hn hd
 | _ => exact h
theorem Den.raw (h : Den τ w0 E s (a.tmps :: aS) w) (x : Operand) : vd3 E s.rows w (s.raw x) (a.eval x) := by
 cases x with
 | tmp t =>
   obtain ⟨b, hb, hf⟩ := h.fr 0 s.fr (by simp)
   simp at hb
   subst hb
   exact hf t
 | const v => exact vd_ofVal _ _ _ v
 | func f => exact ⟨[], [], rfl, L0.nil, L0.nil⟩
 | global g => trivial
theorem Den.rawT (h : Den τ w0 E s (a.tmps :: aS) w) (T : TypeId) (x : Operand) : vd3 E s.rows w (rawT τ s T x) (a.eval x) := by
 unfold Go.Proofs.YtjjpakdlkjaigaaGreat.rawT
 split
 · split
   · exact ⟨rfl, len_mkEmpty _⟩
   · trivial
 · exact h.raw x
theorem Den.get (h : Den τ w0 E s (a.tmps :: aS) w) (x : Operand) : vd3 E s.rows w (s.get x) (a.eval x) := by
 cases x with
 | tmp t =>
   obtain ⟨b, hb, hf⟩ := h.fr 0 s.fr (by simp)
   simp at hb
   subst hb
   exact cook_vd (hf t)
 | const v => exact vd_ofVal _ _ _ v
 | func f => exact ⟨[], [], rfl, L0.nil, L0.nil⟩
 | global g => trivial
theorem Den.getT (h : Den τ w0 E s (a.tmps :: aS) w) (T : TypeId) (x : Operand) : vd3 E s.rows w (getT τ s T x) (a.eval x) := by
 unfold Go.Proofs.YtjjpakdlkjaigaaGreat.getT
 split
 · split
   · exact ⟨rfl, len_mkEmpty _⟩
   · trivial
 · exact h.get x
end
theorem sameK_eq {k k' : IntKind} (h : sameK k k' = true) : k = k' := by cases k <;> cases k' <;> first | rfl | simp [sameK] at h
theorem asBool_vd {E : Env} {R : List (Nat × Ent)} {w : World} {x : SV} {v : Value} {b : Bool} (h : x.asBool = some b) (hv : vd3 E R w x v) : v = .bool b := by
 cases x <;> simp [SV.asBool] at h <;> (subst h; exact hv)
def RV.good (r : RV) (p : SV → Prop) : Prop := match r with
 | .ok x => p x
 | .ob q x => q → p x
 | .bad => True
def Gives {P : Program} (w : World) (c : Sem Value) (x : SV) (E : Env) (R : List (Nat × Ent)) : Prop := ∃ z, c.run P w = .ok z w ∧ vd3 E R w x z
theorem evInt_ok {P : Program} {w : World} {E : Env} {R : List (Nat × Ent)} {op : BinOp} {k : IntKind} {a b : Int} (T : TypeId) :
  (evInt op k a b).good fun x => Gives (P := P) w (binOp op T (.int k a) (.int k b)) x E R := by
 cases op <;> simp only [evInt, RV.good, Gives]
 · exact ⟨_, by rw [binOp_add]; rfl, rfl⟩
 · exact ⟨_, by rw [binOp_sub]; rfl, rfl⟩
 · exact ⟨_, by rw [binOp_mul]; rfl, rfl⟩
 · intro h; exact ⟨_, by rw [binOp_quo, Op.intDiv, if_neg h]; rfl, rfl⟩
 · intro h; exact ⟨_, by rw [binOp_rem, Op.intDiv, if_neg h]; rfl, rfl⟩
 · exact ⟨_, by rw [binOp_and]; rfl, rfl⟩
 · exact ⟨_, by rw [binOp_or]; rfl, rfl⟩
 · exact ⟨_, by rw [binOp_xor]; rfl, rfl⟩
 · exact ⟨_, by rw [binOp_andNot]; rfl, rfl⟩
 · exact ⟨_, by rw [binOp_eql]; rfl, by simp only [vd3, vd2, vd1, vd0]; rfl⟩
 · exact ⟨_, by rw [binOp_neq]; rfl, by simp only [vd3, vd2, vd1, vd0]; rfl⟩
 · exact ⟨_, by rw [binOp_lss]; rfl, rfl⟩
 · exact ⟨_, by rw [binOp_leq]; rfl, rfl⟩
 · exact ⟨_, by rw [binOp_gtr]; rfl, rfl⟩
 · exact ⟨_, by rw [binOp_geq]; rfl, rfl⟩
theorem evBin_ok {P : Program} {τ : Tys} (hτ : TysOk P τ) {w : World} {E : Env} {R : List (Nat × Ent)} {op : BinOp} (T : TypeId) (px py : Operand) {x y : SV} {u v : Value} (hx : vd3 E R w x u) (hy : vd3 E R w y v) :
  (evBin τ T op x y).good fun z => Gives (P := P) w (do eqGuard op T px py u v; binOp op T u v) z E R := by
 unfold evBin
 split
 · -- two whole numbers
   rename_i k a k' b
   obtain rfl : u = .int k a := hx
   obtain rfl : v = .int k' b := hy
   simp only [eqGuard_at_int]
   split
   · intro h
     refine ⟨_, by simp only [Sem.run_bind, Sem.run_pure, Result.andThen_ok]; rw [binOp_shl, shift_shl k k' a b h.1 h.2]; rfl, rfl⟩
   · intro h
     refine ⟨_, by simp only [Sem.run_bind, Sem.run_pure, Result.andThen_ok]; rw [binOp_shr, shift_shr k k' a b h.1 h.2]; rfl, rfl⟩
   · split
     · rename_i hk
       obtain rfl := sameK_eq hk
       have := evInt_ok (P := P) (w := w) (E := E) (R := R) (op := op) (k := k) (a := a) (b := b) T
       cases he : evInt op k a b with
       | bad => trivial
       | ok z => rw [he] at this; obtain ⟨z', h1, h2⟩ := this; exact ⟨z', by simpa using h1, h2⟩
       | ob q z => rw [he] at this; intro hq; obtain ⟨z', h1, h2⟩ := this hq; exact ⟨z', by simpa using h1, h2⟩
     · trivial
 · -- two strings
   rename_i a b
   obtain rfl : u = .string a := hx
   obtain rfl : v = .string b := hy
   simp only [eqGuard_at_string]
   split
   · intro h
     refine ⟨.string (a ++ b), ?_, rfl⟩
     have : ¬ (((a.size + b.size : Nat) : Int) > IntKind.i64.max) := by rw [IntKind.max_i64]; omega
     simp only [Sem.run_bind, Sem.run_pure, Result.andThen_ok, binOp, Op.stringOp, if_neg this]
   · exact ⟨_, by simp only [Sem.run_bind, Sem.run_pure, Result.andThen_ok, binOp, Op.stringOp], rfl⟩
   · exact ⟨_, by simp only [Sem.run_bind, Sem.run_pure, Result.andThen_ok, binOp, Op.stringOp], rfl⟩
   · trivial
 · -- two structs
   rename_i a b
   obtain ⟨us, rfl, hu⟩ := hx
   obtain ⟨vs, rfl, hv⟩ := hy
   split
   · rename_i sh hsh
     split
     · rename_i e he
       obtain ⟨h1, h2⟩ := hτ.sh T sh hsh E R w a b us vs e he hu hv
       exact ⟨_, by simp only [Sem.run_bind, h1, Result.andThen_ok, binOp, h2, Sem.run_pure], rfl⟩
     · rename_i e he
       obtain ⟨h1, h2⟩ := hτ.sh T sh hsh E R w a b us vs e he hu hv
       exact ⟨_, by simp only [Sem.run_bind, h1, Result.andThen_ok, binOp, h2, Sem.run_pure], rfl⟩
     · trivial
   · trivial
 · -- two bools
   split
   · rename_i a b htd ha hb
     obtain rfl := asBool_vd ha hx
     obtain rfl := asBool_vd hb hy
     obtain ⟨d, hd, hd'⟩ := hτ.td htd (by simp)
     rw [show d = .bool from hd'] at hd
     refine ⟨_, by simp only [eqGuard_at_bool, Sem.run_bind, Sem.run_pure, Result.andThen_ok, run_eql_bool w T a b hd], rfl⟩
   · rename_i a b htd ha hb
     obtain rfl := asBool_vd ha hx
     obtain rfl := asBool_vd hb hy
     obtain ⟨d, hd, hd'⟩ := hτ.td htd (by simp)
     rw [show d = .bool from hd'] at hd
     refine ⟨_, by simp only [eqGuard_at_bool, Sem.run_bind, Sem.run_pure, Result.andThen_ok, run_neq_bool w T a b hd], rfl⟩
   · trivial
theorem evUn_ok {P : Program} {w : World} {E : Env} {R : List (Nat × Ent)} {op : UnOp} {x : SV} {u : Value} (hx : vd3 E R w x u) : (evUn op x).good fun z => Gives (P := P) w (Op.unary op u) z E R := by
 unfold evUn
 split
 · obtain rfl : u = _ := hx; exact ⟨_, rfl, rfl⟩
 · obtain rfl : u = _ := hx; exact ⟨_, rfl, rfl⟩
 · obtain rfl : u = _ := hx; exact ⟨_, rfl, rfl⟩
 · obtain rfl : u = _ := hx; exact ⟨_, rfl, rfl⟩
 · trivial
theorem evPick_ok {w : World} {E : Env} {R : List (Nat × Ent)} {c x y : SV} {b u v : Value} (hc : vd3 E R w c b) (hx : vd3 E R w x u) (hy : vd3 E R w y v) :
  (evPick c x y).good fun z => ∃ t, b = .bool t ∧ vd3 E R w z (if t then u else v) := by
 unfold evPick
 split
 · exact ⟨true, hc, hx⟩
 · exact ⟨false, hc, hy⟩
 · rename_i c
   split
   · rename_i p q hp hq
     obtain rfl := asBool_vd hp hx
     obtain rfl := asBool_vd hq hy
     refine ⟨c, hc, ?_⟩
     cases c <;> rfl
   · trivial
 · trivial
theorem nth_eq {α : Type} (l : List α) (n : Nat) : nth l n = l[n]? := by
 induction l generalizing n with
 | nil => rfl
 | cons x l ih => cases n with
   | zero => rfl
   | succ n => simpa [nth] using ih n
theorem vd_of_vd1 {E : Env} {R : List (Nat × Ent)} {w : World} {x : SV} {u : Value} (h : vd1 E R w x u) : vd3 E R w x u := by
 cases x <;> first | exact h | exact h.elim
theorem part_ok {P : Program} {τ : Tys} (hτ : TysOk P τ) {w : World} {E : Env} {R : List (Nat × Ent)} (T : TypeId) (cs : List SV) (us : List Value) (off : Nat) (h : L0 (vd1 E R w) cs us) :
  (part' τ T cs off).good fun z => Gives (P := P) w (part T us.toArray off) z E R := by
 unfold part'
 split
 · trivial
 rename_i i hi
 split
 · rename_i hag
   split
   · rename_i hle
     rw [forceL_eq]
     refine ⟨.agg (cut us off (τ.sz T)).toArray, ?_, ⟨_, rfl, (h.drop off).take _⟩⟩
     have hle' := Nat.le_of_ble_eq_true hle
     simp only [part, Sem.run_bind, hτ.isAgg hi, Result.andThen_ok, hag, if_true, hτ.szOf hi, Sem.run_pure, cut]
     congr 2
     apply Array.ext'
     simp [List.extract_eq_take_drop]
   · trivial
 · rename_i hag
   split
   · rename_i v hv
     rw [nth_eq] at hv
     obtain ⟨u, hu, hp⟩ := h.2 off v hv
     refine ⟨u, ?_, vd_of_vd1 hp⟩
     simp [part, hτ.isAgg hi, hag, hu]
   · trivial
end Go.Proofs.YtjjpakdlkjaigaaGreat

/- A symbolic executor for loaded Go code: its steps in memory are the machine's. -/
namespace Go.Proofs.YtjjpakdlkjaigaaGreat
open Go.RowKit
set_option maxRecDepth 20000
theorem lk_upd {α : Type} (l : List (Nat × α)) (k : Nat) (v : α) (t : Nat) : lk (upd l k v) t = if t = k then some v else lk l t := by
 induction l with
 | nil =>
   simp only [upd, lk]
   by_cases h : t = k
   · subst h; simp [show Nat.beq t t = true from Nat.beq_refl t]
   · have : Nat.beq k t = false := by
      cases hb : Nat.beq k t with
      | false => rfl
      | true => exact absurd (Nat.eq_of_beq_eq_true hb).symm h
     simp [h, this]
 | cons x l ih =>
   obtain ⟨j, u⟩ := x
   simp only [upd]
   split
   · rename_i hb
     obtain rfl := Nat.eq_of_beq_eq_true hb
     simp only [lk]
     by_cases h : t = j
     · subst h; simp [show Nat.beq t t = true from Nat.beq_refl t]
     · have : Nat.beq j t = false := by
        cases hb' : Nat.beq j t with
        | false => rfl
        | true => exact absurd (Nat.eq_of_beq_eq_true hb').symm h
       simp [h, this]
   · rename_i hb
     simp only [lk, ih]
     by_cases h : t = k
     · subst h
       simp [hb]
     · simp [h]
section
variable {P : Program} {τ : Tys} {w0 : World} {E : Env} {aS : List (Array Value)} {a : Act} {w : World}
variable {k lo : Nat} {r : Rw} {s : St} {bs : List (Array Value)}
variable {fr : List (Nat × SV)} {stk : List (List (Nat × SV))} {bx : List (Nat × (TypeId × List SV))} {rw' : List (Nat × Ent)} {dep : Nat}
theorem Den.put {x : SV} {v : Value} {d : Option Tmp} (h : Den τ w0 E ⟨fr, stk, bx, rw', dep⟩ (a.tmps :: aS) w) (hx : vd3 E rw' w x v) (hd : ∀ t, d = some t → t < a.tmps.size) :
  Den τ w0 E (putv d x ⟨fr, stk, bx, rw', dep⟩) ((a.put d v).tmps :: aS) w := by
 cases d with
 | none => exact h
 | some d =>
   refine ⟨h.below, h.bM, h.Mh, h.owb, ?_, h.box, h.own, h.bb, h.br, h.rr⟩
   intro i f hf
   cases i with
   | zero =>
     simp [putv] at hf
     subst hf
     obtain ⟨b, hb, hfr⟩ := h.fr 0 fr (by simp)
     simp at hb
     subst hb
     exact ⟨_, by simp, FrD.put hfr hx (hd d rfl)⟩
   | succ i =>
     obtain ⟨b, hb, hfr⟩ := h.fr (i + 1) f hf
     exact ⟨b, by simpa using hb, hfr⟩
structure Shift (E E' : Env) (s s' : St) (w' : World) : Prop where
 own : ∀ k, s.has (own0 k) = true → E'.hs k = E.hs k ∧ entLike w' E' (E.hs k) (lk s.rows k) (lk s'.rows k)
 box : ∀ k, s.has (box0 k) = true → E'.bs k = E.bs k
theorem stkHas_of_mem {p : SV → Bool} {f : List (Nat × SV)} (hF : frHas p f = true) : ∀ l : List (List (Nat × SV)), f ∈ l → stkHas p l = true
 | [], hm => by simp at hm
 | g :: l, hm => by
   simp only [stkHas]
   rcases List.mem_cons.1 hm with rfl | hm
   · rw [hF]
   · split
     · rfl
     · exact stkHas_of_mem hF l hm
theorem boxesHas_of_lk {p : SV → Bool} {k : Nat} {T : TypeId} {cs : List SV} (hc : anyL (deep1 p) cs = true) : ∀ l : List (Nat × (TypeId × List SV)), lk l k = some (T, cs) → boxesHas p l = true
 | [], hk => by simp [lk] at hk
 | (j, (T', cs')) :: l, hk => by
   simp only [lk] at hk
   simp only [boxesHas]
   split at hk
   · simp at hk
     obtain ⟨rfl, rfl⟩ := hk
     rw [hc]
   · split
     · rfl
     · exact boxesHas_of_lk hc l hk
theorem has_fr {s : St} {p : SV → Bool} (hj : p .junk = false) {i : Nat} {f : List (Nat × SV)} (hf : (s.fr :: s.stk)[i]? = some f) {t : Nat} (h : deep3 p (lkv f t) = true) : s.has p = true := by
 have hF : frHas p f = true := by
  cases hb : frHas p f with
  | true => rfl
  | false => rw [lkv_junk_of_has hb t hj] at h; exact absurd h (by simp)
 unfold St.has
 cases i with
 | zero => simp at hf; subst hf; rw [hF]
 | succ i =>
   have := stkHas_of_mem hF s.stk (List.mem_of_getElem? (by simpa using hf))
   split
   · rfl
   · rw [this]
theorem has_box {s : St} {p : SV → Bool} {k : Nat} {T : TypeId} {cs : List SV} (hk : lk s.boxes k = some (T, cs)) {x : SV} (hx : x ∈ cs) (h : deep1 p x = true) : s.has p = true := by
 have := boxesHas_of_lk (anyL_of_mem hx h) s.boxes hk
 unfold St.has
 split
 · rfl
 · split
   · rfl
   · exact this
theorem Shift.names {E E' : Env} {s s' : St} {w' : World} (h : Shift E E' s s' w') {i : Nat} {f : List (Nat × SV)} (hf : (s.fr :: s.stk)[i]? = some f) (t : Nat) : Names E E' s.rows s'.rows w' (lkv f t) :=
 ⟨fun k hk => h.own k (has_fr rfl hf hk), fun k hk => h.box k (has_fr rfl hf hk)⟩
theorem Shift.frD {E E' : Env} {s s' : St} {w w' : World} (h : Shift E E' s s' w') (hk : Keeps E E' w w') {i : Nat} {f : List (Nat × SV)} (hf : (s.fr :: s.stk)[i]? = some f) {b : Array Value} (hd : FrD E s.rows w f b) : FrD E' s'.rows w' f b :=
 hd.keeps hk fun t => h.names hf t
theorem Shift.cells {E E' : Env} {s s' : St} {w w' : World} (h : Shift E E' s s' w') (hk : Keeps E E' w w') {k : Nat} {T : TypeId} {cs : List SV} (hb : lk s.boxes k = some (T, cs)) {us : List Value} (hd : L0 (vd1 E s.rows w) cs us) : L0 (vd1 E' s'.rows w') cs us :=
 hd.mono fun x u hx hp => vd1.keeps hk (fun j hj => h.own j (has_box hb hx hj)) (fun j hj => h.box j (has_box hb hx hj)) hp
theorem OwnD.keeps {E E' : Env} {w w' : World} {k lo : Nat} {r : Rw} (h : OwnD τ E w k lo r) (hk : Keeps E E' w w') (hh : E'.hs k = E.hs k) (hM : E'.M = E.M) (how : ∀ g, (E.hs k).ownBlock = some g → E'.ow g)
  (hb : ∀ g, (E.hs k).ownBlock = some g → w'.heap[g]? = w.heap[g]?) : OwnD τ E' w' k lo r := by
 obtain ⟨us, hrow, hc⟩ := h.row
 refine ⟨by rw [hh]; exact how, h.fits, us, ?_, fun i j x hi hx => ?_⟩
 · rw [hh, hM]
   refine ⟨hrow.1, ?_⟩
   rcases hrow.2 with h1 | ⟨g, cap, cur, hv, hg, hheap, h2⟩
   · exact .inl h1
   · exact .inr ⟨g, cap, cur, hv, hg, by rw [hb g (by rw [hv]; rfl)]; exact hheap, h2⟩
 · obtain ⟨u, hu, hd⟩ := hc i j x hi hx
   exact ⟨u, hu, cd1.mono hd (hk.F _)⟩
theorem OwnD.lt (h : OwnD τ E w k lo r) (hE : ∀ g, E.ow g → E.base ≤ g ∧ g < w.heap.size) {g : Nat} (hg : (E.hs k).ownBlock = some g) : g < w.heap.size := (hE g (h.ow g hg)).2
theorem Den.move {s s' : St} {E' : Env} {w' : World} {bs : List (Array Value)} (h : Den τ w0 E s bs w) (hk : Keeps E E' w w') (hb : E'.base = E.base) (hw : Below E.base w w') (hs : Shift E E' s s' w') (hfr : s'.fr = s.fr) (hst : s'.stk = s.stk)
  (how : ∀ g, E'.ow g → E'.base ≤ g ∧ g < w'.heap.size) (hbox : ∀ k T cs, lk s'.boxes k = some (T, cs) → BoxD E' s'.rows w' k T cs)
  (hown : ∀ k e lo r, lk s'.rows k = some e → e.mine = some (lo, r) → OwnD τ E' w' k lo r)
  (bb : ∀ k k' b b', lk s'.boxes k = some b → lk s'.boxes k' = some b' → k ≠ k' → E'.bs k ≠ E'.bs k')
  (br : ∀ k k' b e m, lk s'.boxes k = some b → lk s'.rows k' = some e → e.mine = some m → (E'.hs k').ownBlock ≠ some (E'.bs k))
  (rr : ∀ k k' e e' m m' g, lk s'.rows k = some e → lk s'.rows k' = some e' → e.mine = some m → e'.mine = some m' → k ≠ k' → (E'.hs k).ownBlock = some g → (E'.hs k').ownBlock ≠ some g) : Den τ w0 E' s' bs w' := by
 refine ⟨?_, by rw [hb, hk.M]; exact h.bM, by rw [hk.M]; exact Nat.le_trans h.Mh hk.size, how, ?_, hbox, hown, bb, br, rr⟩
 · rw [hb]; exact h.below.trans hw
 · intro i f hf
   rw [hfr, hst] at hf
   obtain ⟨b, hb, hd⟩ := h.fr i f hf
   exact ⟨b, hb, hs.frD hk hf hd⟩
theorem below_of_alloc (h : Den τ w0 E s bs w) (o : Obj) : Below E.base w (w.alloc o) := (Below.refl _ _).alloc (Nat.le_trans h.bM h.Mh) o
theorem Den.newBox (h : Den τ w0 E ⟨fr, stk, bx, rw', dep⟩ aS w) (k : Nat) (hno : St.has (box0 k) ⟨fr, stk, bx, rw', dep⟩ = false) (T : TypeId) (cs : List SV) (us : List Value)
  (hc : ∀ E' : Env, E'.hs = E.hs → E'.M = E.M → (∀ j, j ≠ k → E'.bs j = E.bs j) → (∀ g, E'.ow g → E.ow g ∨ w.heap.size ≤ g) → L0 (vd1 E' rw' (w.alloc (.cells us.toArray T))) cs us) :
  ∃ E', E'.base = E.base ∧ E'.M = E.M ∧ E'.bs k = w.heap.size ∧ Den τ w0 E' ⟨fr, stk, upd bx k (T, cs), rw', dep⟩ aS (w.alloc (.cells us.toArray T)) := by
 let E' : Env := { E with bs := fun j => if j = k then w.heap.size else E.bs j, ow := fun g => E.ow g ∨ g = w.heap.size }
 have hlt : ∀ j T' cs', lk bx j = some (T', cs') → E.bs j < w.heap.size := fun j T' cs' hj => (h.owb _ (h.box j T' cs' hj).ow).2
 have hk : Keeps E E' w (w.alloc (.cells us.toArray T)) := ⟨rfl, by simp, fun g _ hg => Below.heap_alloc w _ g hg, fun g hg => hg.imp id (fun e => by omega)⟩
 have hs : Shift E E' ⟨fr, stk, bx, rw', dep⟩ ⟨fr, stk, upd bx k (T, cs), rw', dep⟩ (w.alloc (.cells us.toArray T)) := by
  refine ⟨fun j _ => ⟨rfl, entLike.refl _ _ _ _⟩, fun j hj => ?_⟩
  have : j ≠ k := fun e => by subst e; rw [hno] at hj; exact absurd hj (by simp)
  simp [E', this]
 have hbs : ∀ j, j ≠ k → E'.bs j = E.bs j := fun j hj => by simp [E', hj]
 refine ⟨E', rfl, rfl, by simp [E'], h.move hk rfl (below_of_alloc h _) hs rfl rfl ?_ ?_ ?_ ?_ ?_ ?_⟩
 · rintro g (hg | rfl)
   · have := h.owb g hg
     exact ⟨this.1, by simp; omega⟩
   · exact ⟨Nat.le_trans h.bM h.Mh, by simp⟩
 · intro j T' cs' hj
   simp only [lk_upd] at hj
   split at hj
   · rename_i e
     subst e
     simp at hj
     obtain ⟨rfl, rfl⟩ := hj
     refine ⟨.inr (by simp [E']), us, ?_, hc E' rfl rfl hbs fun g hg => hg.imp id (fun e => by omega)⟩
     simp only [E', if_true]
     exact heap_alloc_new w _
   · rename_i e
     obtain ⟨h1, us', h2, h3⟩ := h.box j T' cs' hj
     refine ⟨?_, us', ?_, hs.cells hk hj h3⟩
     · rw [hbs j e]; exact .inl h1
     · rw [hbs j e, Below.heap_alloc w _ _ (hlt j T' cs' hj)]; exact h2
 · intro j e lo r hj hm
   exact (h.own j e lo r hj hm).keeps hk rfl rfl (fun g hg => .inl ((h.own j e lo r hj hm).ow g hg)) fun g hg => Below.heap_alloc w _ g ((h.own j e lo r hj hm).lt h.owb hg)
 · intro j j' b b' hj hj' hne
   simp only [lk_upd] at hj hj'
   split at hj <;> split at hj'
   · omega
   · rename_i e e'
     rw [hbs j' e']
     have := hlt j' b'.1 b'.2 hj'
     subst e
     simp only [E', if_true]
     omega
   · rename_i e e'
     rw [hbs j e]
     have := hlt j b.1 b.2 hj
     subst e'
     simp only [E', if_true]
     omega
   · rename_i e e'
     rw [hbs j e, hbs j' e']
     exact h.bb j j' b b' hj hj' hne
 · intro j j' b e m hj hj' hm
   simp only [lk_upd] at hj
   split at hj
   · rename_i e'
     subst e'
     intro hg
     have := (h.own j' e m.1 m.2 hj' hm).lt h.owb hg
     simp [E'] at this
   · rename_i e'
     rw [hbs j e']
     exact h.br j j' b e m hj hj' hm
 · exact h.rr
theorem setRange_eq {α : Type} (vs : List α) : ∀ (cs : List α) (off : Nat), off + vs.length ≤ cs.length → setRange cs off vs = cs.take off ++ vs ++ cs.drop (off + vs.length) := by
 induction vs with
 | nil => intro cs off h; cases cs <;> simp [setRange]
 | cons v vs ih =>
   intro cs off h
   induction cs generalizing off with
   | nil => simp at h
   | cons c cs ihc =>
     cases off with
     | zero =>
       simp only [setRange]
       rw [ih cs 0 (by simpa using h)]
       simp
     | succ off =>
       simp only [setRange]
       rw [ihc off (by simp at h ⊢; omega)]
       simp [show off + 1 + (vs.length + 1) = (off + (vs.length + 1)) + 1 by omega]
theorem setRange_length {α : Type} (vs cs : List α) (off : Nat) (h : off + vs.length ≤ cs.length) : (setRange cs off vs).length = cs.length := by
 rw [setRange_eq vs cs off h]
 simp
 omega
theorem L0.setRange {p : SV → Value → Prop} {cs vs : List SV} {us ws : List Value} (h : L0 p cs us) (hv : L0 p vs ws) (off : Nat) (hl : off + vs.length ≤ cs.length) :
  L0 p (setRange cs off vs) (us.take off ++ ws ++ us.drop (off + ws.length)) := by
 rw [setRange_eq vs cs off hl, ← hv.1]
 exact ((h.take off).append hv).append (h.drop _)
theorem vd1_one {E : Env} {R : List (Nat × Ent)} {w : World} {x : SV} {u : Value} (hR : ∀ k e m, lk R k = some e → e.mine = some m → (E.hs k).oneCell' = true) (h : vd1 E R w x u) (ho : oneOk R x = true) : u.oneCell' = true := by
 cases x with
 | row t r => obtain ⟨_, A, c, rfl, _⟩ := h; rfl
 | nilS r => obtain ⟨rfl, _⟩ := h; rfl
 | pre t r n => obtain ⟨A, c, rfl, _⟩ := h; rfl
 | own k =>
   simp only [oneOk] at ho
   simp only [vd1, vd0] at h
   split at ho
   · rename_i e he
     rw [he] at h
     cases e with
     | own r => rw [show u = _ from h]; exact hR k _ _ he rfl
     | part lo r => rw [show u = _ from h]; exact hR k _ _ he rfl
     | shared t r => obtain ⟨_, A, c, rfl, _⟩ := h; rfl
   · simp at ho
 | box k off => obtain rfl : u = _ := h; rfl
 | pt t cs => obtain ⟨ad, rfl, _⟩ := h; rfl
 | oel k i off =>
   simp only [oneOk] at ho
   simp only [vd1, vd0] at h
   split at ho
   · rename_i r he; rw [he] at h; obtain ⟨g, n, c, _, _, _, rfl⟩ := h; rfl
   · rename_i lo r he; rw [he] at h; obtain ⟨g, n, c, _, _, _, rfl⟩ := h; rfl
   · simp at ho
 | clo f a c => obtain ⟨us, vs, rfl, _⟩ := h; rfl
 | junk => simp [oneOk] at ho
 | agg cs => simp [oneOk] at ho
 | tup vs => simp [oneOk] at ho
 | _ => obtain rfl : u = _ := h; rfl
theorem allOne_mem {R : List (Nat × Ent)} {l : List SV} (h : allOne R l = true) {x : SV} (hx : x ∈ l) : oneOk R x = true := by
 induction l with
 | nil => simp at hx
 | cons y l ih =>
   simp only [allOne] at h
   split at h
   · rcases List.mem_cons.1 hx with rfl | hx
     · assumption
     · exact ih h hx
   · simp at h
theorem L0.one {p : SV → Value → Prop} {cs : List SV} {us : List Value} (h : L0 p cs us) (hp : ∀ x u, x ∈ cs → p x u → u.oneCell' = true) : ∀ u ∈ us, u.oneCell' = true := by
 intro u hu
 obtain ⟨j, hj, rfl⟩ := List.getElem_of_mem hu
 obtain ⟨x, hx⟩ : ∃ x, cs[j]? = some x := ⟨cs[j]'(by rw [h.1]; exact hj), List.getElem?_eq_getElem _⟩
 obtain ⟨u', hu', hd⟩ := h.2 j x hx
 rw [List.getElem?_eq_getElem hj] at hu'
 injection hu' with hu'
 rw [hu']
 exact hp x _ (List.mem_of_getElem? hx) hd
theorem OwnD.one (h : OwnD τ E w k lo r) : (E.hs k).oneCell' = true := by
 obtain ⟨us, hrow, _⟩ := h.row
 rcases hrow.2 with ⟨hv, _⟩ | ⟨g, cap, cur, hv, _⟩ <;> rw [hv] <;> rfl
theorem Den.hs_one (h : Den τ w0 E s bs w) : ∀ k e m, lk s.rows k = some e → e.mine = some m → (E.hs k).oneCell' = true := fun k e m hk hm => (h.own k e m.1 m.2 hk hm).one
theorem keeps_setRow (h : Den τ w0 E s bs w) {g : Nat} (hg : E.ow g) (cs : Array Value) : Keeps E E w (w.setRow g cs) :=
 ⟨rfl, by simp, fun g' hg' _ => setRow_other w g g' cs (fun e => hg' (e ▸ hg)), fun _ h => .inl h⟩
theorem below_setRow (h : Den τ w0 E s bs w) {g : Nat} (hg : E.ow g) (cs : Array Value) : Below E.base w (w.setRow g cs) :=
 ⟨rfl, rfl, rfl, by simp, fun k hk => setRow_other w g k cs (fun e => by have := (h.owb g hg).1; omega)⟩
theorem Shift.refl (E : Env) (s s' : St) (w' : World) (hr : s'.rows = s.rows) : Shift E E s s' w' := ⟨fun k _ => ⟨rfl, by rw [hr]; exact entLike.refl _ _ _ _⟩, fun _ _ => rfl⟩
theorem Den.setBox (h : Den τ w0 E ⟨fr, stk, bx, rw', dep⟩ aS w) {k : Nat} {T : TypeId} {cs : List SV} (hb : lk bx k = some (T, cs)) {off : Nat} {vs : List SV} {us : List Value} (hl : off + vs.length ≤ cs.length) (hv : L0 (vd1 E rw' w) vs us) :
  ∃ cur : Array Value, w.heap[E.bs k]? = some (.cells cur T (0, 0)) ∧ off + us.length ≤ cur.size ∧
   Den τ w0 E ⟨fr, stk, upd bx k (T, setRange cs off vs), rw', dep⟩ aS (w.setRow (E.bs k) (cur.toList.take off ++ us ++ cur.toList.drop (off + us.length)).toArray) := by
 obtain ⟨how, us0, hheap, hcs⟩ := h.box k T cs hb
 refine ⟨us0.toArray, hheap, by rw [← hv.1]; simpa [← hcs.1] using hl, ?_⟩
 have hk := keeps_setRow h how (us0.take off ++ us ++ us0.drop (off + us.length)).toArray
 have hs := Shift.refl E ⟨fr, stk, bx, rw', dep⟩ ⟨fr, stk, upd bx k (T, setRange cs off vs), rw', dep⟩ (w.setRow (E.bs k) (us0.take off ++ us ++ us0.drop (off + us.length)).toArray) rfl
 refine h.move hk rfl (below_setRow h how _) hs rfl rfl ?_ ?_ ?_ ?_ ?_ h.rr
 · intro g hg; simpa using h.owb g hg
 · intro j T' cs' hj
   simp only [lk_upd] at hj
   split at hj
   · rename_i e
     subst e
     simp at hj
     obtain ⟨rfl, rfl⟩ := hj
     refine ⟨how, us0.take off ++ us ++ us0.drop (off + us.length), setRow_heap w _ _ _ _ _ hheap, ?_⟩
     have hv' : L0 (vd1 E rw' (w.setRow (E.bs j) (us0.take off ++ us ++ us0.drop (off + us.length)).toArray)) vs us := hv.mono fun x u _ hp => vd1.keeps hk (fun _ _ => ⟨rfl, entLike.refl _ _ _ _⟩) (fun _ _ => rfl) hp
     have hc' := hs.cells hk hb hcs
     exact hc'.setRange hv' off hl
   · rename_i e
     obtain ⟨h1, us', h2, h3⟩ := h.box j T' cs' hj
     refine ⟨h1, us', ?_, hs.cells hk hj h3⟩
     rw [setRow_other w _ _ _ (h.bb j k _ _ hj hb e)]
     exact h2
 · intro j e lo r hj hm
   refine (h.own j e lo r hj hm).keeps hk rfl rfl (h.own j e lo r hj hm).ow fun g hg => setRow_other w _ _ _ ?_
   rintro rfl
   exact h.br k j _ e _ hb hj hm hg
 · intro j j' b b' hj hj' hne
   have key : ∀ i c, lk (upd bx k (T, setRange cs off vs)) i = some c → ∃ c', lk bx i = some c' := by
    intro i c hi
    rw [lk_upd] at hi
    split at hi
    · rename_i e; subst e; exact ⟨_, hb⟩
    · exact ⟨_, hi⟩
   obtain ⟨c, hc⟩ := key j b hj
   obtain ⟨c', hc'⟩ := key j' b' hj'
   exact h.bb j j' c c' hc hc' hne
 · intro j j' b e m hj hj' hm
   have : ∃ c', lk bx j = some c' := by
    simp only [lk_upd] at hj
    split at hj
    · rename_i e; subst e; exact ⟨_, hb⟩
    · exact ⟨_, hj⟩
   obtain ⟨c, hc⟩ := this
   exact h.br j j' c e m hc hj' hm
end
end Go.Proofs.YtjjpakdlkjaigaaGreat

/- A symbolic executor for loaded Go code: rows of one's own. -/
namespace Go.Proofs.YtjjpakdlkjaigaaGreat
open Go.RowKit
section
variable {P : Program} {τ : Tys} {w0 : World} {E : Env} {aS : List (Array Value)} {a : Act} {w : World}
variable {k lo : Nat} {r : Rw} {s : St} {bs : List (Array Value)}
variable {fr : List (Nat × SV)} {stk : List (List (Nat × SV))} {bx : List (Nat × (TypeId × List SV))} {rw' : List (Nat × Ent)} {dep : Nat}
def Env.add (E : Env) (k : Nat) (v : Value) : Env := { E with hs := fun j => if j = k then v else E.hs j, ow := fun g => E.ow g ∨ v.ownBlock = some g }
theorem grown_keeps {E' : Env} {w' : World} {row : Option Nat} (hg : w.grownBy w' row) (hr : ∀ g, row = some g → E.ow g) (hM : E'.M = E.M) (how : ∀ g, E'.ow g → E.ow g ∨ w.heap.size ≤ g) : Keeps E E' w w' :=
 ⟨hM, hg.size, fun g hn hl => hg.block g hl (fun e => hn (hr g e.symm)), how⟩
theorem grown_below {w' : World} {row : Option Nat} (h : Den τ w0 E s bs w) (hg : w.grownBy w' row) (hr : ∀ g, row = some g → E.ow g) : Below E.base w w' :=
 (Below.refl _ _).grown hg (Nat.le_trans h.bM h.Mh) (fun g e => (h.owb g (hr g e)).1)
theorem Den.box_lt (h : Den τ w0 E s bs w) {k : Nat} {b : TypeId × List SV} (hk : lk s.boxes k = some b) : E.bs k < w.heap.size := (h.owb _ (h.box k b.1 b.2 hk).ow).2
theorem Den.setRow (h : Den τ w0 E ⟨fr, stk, bx, rw', dep⟩ aS w) (k : Nat) (fr' : List (Nat × SV)) (stk' : List (List (Nat × SV))) (bx' : List (Nat × (TypeId × List SV))) (w' : World) (row : Option Nat) (hg : w.grownBy w' row)
  (hrow : ∀ g, row = some g → ∃ e m, lk rw' k = some e ∧ e.mine = some m ∧ (E.hs k).ownBlock = some g)
  (v : Value) (e : Ent) (lo : Nat) (r : Rw) (hm : e.mine = some (lo, r)) (us : List Value)
  (hblk : ∀ g, v.ownBlock = some g → (w.heap.size ≤ g ∨ some g = row) ∧ g < w'.heap.size)
  (hfits : r.len * r.bts ≤ 140737488355328) (hown : w'.ownsRow E.M (τ.et r.kd) r.sz v r.len us)
  (hc : ∀ i j x, i < r.len → (r.cell .any i)[j]? = some x → ∃ u, us[i * r.sz + j]? = some u ∧ cd1 w' ((E.add k v).F w' (if i < lo then .new else .any)) x u)
  (hfr : ∀ (i : Nat) f, (fr' :: stk')[i]? = some f → ∃ b, aS[i]? = some b ∧ FrD (E.add k v) (upd rw' k e) w' f b)
  (hbx : ∀ j T cs, lk bx' j = some (T, cs) → ∃ cs', lk bx j = some (T, cs') ∧ ∀ us, L0 (vd1 E rw' w) cs' us → L0 (vd1 (E.add k v) (upd rw' k e) w') cs us) :
  Den τ w0 (E.add k v) ⟨fr', stk', bx', upd rw' k e, dep⟩ aS w' := by
 have hrow' : ∀ g, row = some g → E.ow g := fun g hg => by
  obtain ⟨e', m, h1, h2, h3⟩ := hrow g hg
  exact (h.own k e' m.1 m.2 h1 h2).ow g h3
 have how : ∀ g, (E.add k v).ow g → E.ow g ∨ w.heap.size ≤ g := by
  rintro g (hg | hg)
  · exact .inl hg
  · rcases (hblk g hg).1 with h1 | h1
    · exact .inr h1
    · exact .inl (hrow' g h1.symm)
 have hk : Keeps E (E.add k v) w w' := grown_keeps hg hrow' rfl how
 -- a row under another key, a box: they don't lie where this one lies
 have hsep : ∀ j e' m g, j ≠ k → lk rw' j = some e' → e'.mine = some m → (E.hs j).ownBlock = some g → v.ownBlock ≠ some g ∧ some g ≠ row := by
  intro j e' m g hj h1 h2 h3
  have hlt := (h.own j e' m.1 m.2 h1 h2).lt h.owb h3
  refine ⟨fun e1 => ?_, fun e1 => ?_⟩
  · rcases (hblk g e1).1 with h4 | h4
    · omega
    · obtain ⟨e2, m2, h5, h6, h7⟩ := hrow g h4.symm
      exact h.rr j k e' e2 m m2 g h1 h5 h2 h6 hj h3 h7
  · obtain ⟨e2, m2, h5, h6, h7⟩ := hrow g e1.symm
    exact h.rr j k e' e2 m m2 g h1 h5 h2 h6 hj h3 h7
 have hsepb : ∀ j b, lk bx j = some b → v.ownBlock ≠ some (E.bs j) ∧ some (E.bs j) ≠ row := by
  intro j b hj
  have hlt := h.box_lt hj
  refine ⟨fun e1 => ?_, fun e1 => ?_⟩
  · rcases (hblk _ e1).1 with h4 | h4
    · exact absurd hlt (Nat.not_lt.2 h4)
    · obtain ⟨e2, m2, h5, h6, h7⟩ := hrow _ h4.symm
      exact h.br j k b e2 m2 hj h5 h6 h7
  · obtain ⟨e2, m2, h5, h6, h7⟩ := hrow _ e1.symm
    exact h.br j k b e2 m2 hj h5 h6 h7
 refine ⟨h.below.trans (grown_below h hg hrow'), h.bM, Nat.le_trans h.Mh hg.size, ?_, hfr, ?_, ?_, ?_, ?_, ?_⟩
 · rintro g (hg' | hg')
   · exact ⟨(h.owb g hg').1, Nat.lt_of_lt_of_le (h.owb g hg').2 hg.size⟩
   · rcases hblk g hg' with ⟨h1 | h1, h2⟩
     · exact ⟨Nat.le_trans (Nat.le_trans h.bM h.Mh) h1, h2⟩
     · exact ⟨(h.owb g (hrow' g h1.symm)).1, h2⟩
 · intro j T cs hj
   obtain ⟨cs', hj', hcs⟩ := hbx j T cs hj
   obtain ⟨h1, us', h2, h3⟩ := h.box j T cs' hj'
   refine ⟨.inl h1, us', ?_, hcs us' h3⟩
   have := hg.block _ (h.box_lt hj') (hsepb j _ hj').2
   exact this.trans h2
 · intro j e' lo' r' hj hm'
   simp only [lk_upd] at hj
   split at hj
   · rename_i e1
     subst e1
     injection hj with hj
     subst hj
     rw [hm] at hm'
     injection hm' with hm'
     obtain ⟨rfl, rfl⟩ : lo = lo' ∧ r = r' := by simpa using hm'
     refine ⟨fun g hg' => .inr (by simpa [Env.add] using hg'), hfits, us, by simpa [Env.add] using hown, hc⟩
   · rename_i e1
     refine (h.own j e' lo' r' hj hm').keeps hk (by simp [Env.add, e1]) rfl (fun g hg' => .inl ((h.own j e' lo' r' hj hm').ow g hg')) fun g hg' => ?_
     exact hg.block g ((h.own j e' lo' r' hj hm').lt h.owb hg') (hsep j e' _ g e1 hj hm' hg').2
 · intro j j' b b' hj hj' hne
   obtain ⟨c, hc, _⟩ := hbx j b.1 b.2 hj
   obtain ⟨c', hc', _⟩ := hbx j' b'.1 b'.2 hj'
   exact h.bb j j' _ _ hc hc' hne
 · intro j j' b e' m hj hj' hm'
   obtain ⟨c, hcj, _⟩ := hbx j b.1 b.2 hj
   simp only [lk_upd] at hj'
   split at hj'
   · rename_i e1
     subst e1
     simp only [Env.add, if_true]
     exact (hsepb j _ hcj).1
   · rename_i e1
     simp only [Env.add, e1, if_false]
     exact h.br j j' _ e' m hcj hj' hm'
 · intro j j' e1 e2 m1 m2 g hj hj' h1 h2 hne hb
   simp only [lk_upd] at hj hj'
   split at hj <;> split at hj'
   · omega
   · rename_i e3 e4
     subst e3
     simp only [Env.add, if_true] at hb
     simp only [Env.add, e4, if_false]
     intro hb'
     exact (hsep j' e2 m2 g e4 hj' h2 hb').1 hb
   · rename_i e3 e4
     subst e4
     simp only [Env.add, e3, if_false] at hb
     simp only [Env.add, if_true]
     intro hb'
     exact (hsep j e1 m1 g e3 hj h1 hb).1 hb'
   · rename_i e3 e4
     simp only [Env.add, e3, if_false] at hb
     simp only [Env.add, e4, if_false]
     exact h.rr j j' e1 e2 m1 m2 g hj hj' h1 h2 hne hb
theorem shift_new {w' : World} (k : Nat) (v : Value) (e : Ent) (hno : St.has (own0 k) ⟨fr, stk, bx, rw', dep⟩ = false) : Shift E (E.add k v) ⟨fr, stk, bx, rw', dep⟩ ⟨fr, stk, bx, upd rw' k e, dep⟩ w' := by
 refine ⟨fun j hj => ?_, fun _ _ => rfl⟩
 have : j ≠ k := fun e => by subst e; rw [hno] at hj; exact absurd hj (by simp)
 refine ⟨by simp [Env.add, this], ?_⟩
 simp only [lk_upd, this, if_false]
 exact entLike.refl _ _ _ _
theorem Den.newRow (h : Den τ w0 E ⟨fr, stk, bx, rw', dep⟩ aS w) (k : Nat) (hno : St.has (own0 k) ⟨fr, stk, bx, rw', dep⟩ = false) (w' : World) (hg : w.grownBy w' none)
  (v : Value) (e : Ent) (lo : Nat) (r : Rw) (hm : e.mine = some (lo, r)) (us : List Value) (hblk : ∀ g, v.ownBlock = some g → w.heap.size ≤ g ∧ g < w'.heap.size)
  (hfits : r.len * r.bts ≤ 140737488355328) (hown : w'.ownsRow E.M (τ.et r.kd) r.sz v r.len us)
  (hc : ∀ i j x, i < r.len → (r.cell .any i)[j]? = some x → ∃ u, us[i * r.sz + j]? = some u ∧ cd1 w' ((E.add k v).F w' (if i < lo then .new else .any)) x u) :
  Den τ w0 (E.add k v) ⟨fr, stk, bx, upd rw' k e, dep⟩ aS w' := by
 have hk : Keeps E (E.add k v) w w' := grown_keeps hg (fun g hg => by simp at hg) rfl (by
  rintro g (hg | hg)
  · exact .inl hg
  · exact .inr (hblk g hg).1)
 have hs := shift_new (E := E) (w' := w') k v e hno
 refine h.setRow k fr stk bx w' none hg (fun g hg => by simp at hg) v e lo r hm us (fun g hg => ⟨.inl (hblk g hg).1, (hblk g hg).2⟩) hfits hown hc ?_ ?_
 · intro i f hf
   obtain ⟨b, hb, hd⟩ := h.fr i f hf
   exact ⟨b, hb, hs.frD hk hf hd⟩
 · intro j T cs hj
   exact ⟨cs, hj, fun us hd => hs.cells hk hj hd⟩
theorem L0.kill {E : Env} {R : List (Nat × Ent)} {w : World} {cs : List SV} {us : List Value} (k : Nat) (h : L0 (vd1 E R w) cs us) : L0 (vd1 E R w) (killC k cs) us := by
 induction cs generalizing us with
 | nil => exact h
 | cons x cs ih =>
   obtain ⟨u, us', rfl, h1, h2⟩ := h.inv_cons
   refine L0.cons ?_ (ih h2)
   unfold killV
   split
   · trivial
   · exact h1
theorem killC_own (k : Nat) (cs : List SV) : anyL (deep1 (own0 k)) (killC k cs) = false := by
 induction cs with
 | nil => rfl
 | cons x cs ih =>
   have : deep1 (own0 k) (killV k x) = false := by
    have := killV_own k x
    cases hx : killV k x with
    | tup vs => simp [deep1, own0]
    | agg cs => simp [deep1, own0]
    | _ => rw [hx] at this; exact this
   simp only [killC, anyL, this]
   exact ih
theorem lk_killB (k : Nat) : ∀ (l : List (Nat × (TypeId × List SV))) (j : Nat), lk (killB k l) j = (lk l j).map fun b => (b.1, killC k b.2)
 | [], j => rfl
 | (i, (T, cs)) :: l, j => by
   simp only [killB, lk]
   split
   · rfl
   · exact lk_killB k l j
theorem killS_get (k : Nat) : ∀ (l : List (List (Nat × SV))) (i : Nat), (killS k l)[i]? = (l[i]?).map (killF k)
 | [], i => by simp [killS]
 | f :: l, 0 => by simp [killS]
 | f :: l, i + 1 => by simpa [killS] using killS_get k l i
theorem Den.growRow (h : Den τ w0 E ⟨fr, stk, bx, rw', dep⟩ aS w) (k : Nat) (w' : World) (hg : w.grownBy w' (E.hs k).ownBlock) {e0 : Ent} {m0 : Nat × Rw} (he0 : lk rw' k = some e0) (hm0 : e0.mine = some m0)
  (v : Value) (e : Ent) (lo : Nat) (r : Rw) (hm : e.mine = some (lo, r)) (us : List Value) (hblk : ∀ g, v.ownBlock = some g → (w.heap.size ≤ g ∨ some g = (E.hs k).ownBlock) ∧ g < w'.heap.size)
  (hfits : r.len * r.bts ≤ 140737488355328) (hown : w'.ownsRow E.M (τ.et r.kd) r.sz v r.len us)
  (hc : ∀ i j x, i < r.len → (r.cell .any i)[j]? = some x → ∃ u, us[i * r.sz + j]? = some u ∧ cd1 w' ((E.add k v).F w' (if i < lo then .new else .any)) x u) :
  Den τ w0 (E.add k v) ⟨killF k fr, killS k stk, killB k bx, upd rw' k e, dep⟩ aS w' := by
 have hrow' : ∀ g, (E.hs k).ownBlock = some g → E.ow g := (h.own k e0 m0.1 m0.2 he0 hm0).ow
 have hk : Keeps E (E.add k v) w w' := grown_keeps hg hrow' rfl (by
  rintro g (hg | hg)
  · exact .inl hg
  · rcases (hblk g hg).1 with h1 | h1
    · exact .inr h1
    · exact .inl (hrow' g h1.symm))
 have hn : ∀ j, j ≠ k → (E.add k v).hs j = E.hs j ∧ entLike w' (E.add k v) (E.hs j) (lk rw' j) (lk (upd rw' k e) j) := by
  intro j hj
  refine ⟨by simp [Env.add, hj], ?_⟩
  simp only [lk_upd, hj, if_false]
  exact entLike.refl _ _ _ _
 refine h.setRow k _ _ _ w' _ hg (fun g hg => ⟨e0, m0, he0, hm0, hg⟩) v e lo r hm us hblk hfits hown hc ?_ ?_
 · intro i f hf
   have : ∃ f0, (fr :: stk)[i]? = some f0 ∧ f = killF k f0 := by
    cases i with
    | zero => simp at hf; exact ⟨fr, by simp, hf.symm⟩
    | succ i =>
      simp only [List.getElem?_cons_succ, killS_get, Option.map_eq_some_iff] at hf
      obtain ⟨f0, h1, h2⟩ := hf
      exact ⟨f0, by simpa using h1, h2.symm⟩
   obtain ⟨f0, hf0, rfl⟩ := this
   obtain ⟨b, hb, hd⟩ := h.fr i f0 hf0
   refine ⟨b, hb, (hd.kill k).keeps hk fun t => ⟨fun j hj => hn j ?_, fun _ _ => rfl⟩⟩
   rintro rfl
   rw [lkv_kill, killV_own] at hj
   exact absurd hj (by simp)
 · intro j T cs hj
   rw [lk_killB, Option.map_eq_some_iff] at hj
   obtain ⟨⟨T', cs'⟩, h1, h2⟩ := hj
   simp only [Prod.mk.injEq] at h2
   obtain ⟨rfl, rfl⟩ := h2
   refine ⟨cs', h1, fun us hd => (hd.kill k).mono fun x u hx hp => vd1.keeps hk (fun i hi => hn i ?_) (fun _ _ => rfl) hp⟩
   rintro rfl
   have := anyL_of_mem hx hi
   rw [killC_own] at this
   exact absurd this (by simp)
theorem Den.writeRow (h : Den τ w0 E ⟨fr, stk, bx, rw', dep⟩ aS w) (k : Nat) (w' : World) (hg : w.grownBy w' (E.hs k).ownBlock) {e0 : Ent} {m0 : Nat × Rw} (he0 : lk rw' k = some e0) (hm0 : e0.mine = some m0)
  (e : Ent) (lo : Nat) (r : Rw) (hm : e.mine = some (lo, r)) (hkd : m0.2.kd = r.kd) (hlen : m0.2.len = r.len) (us : List Value) (hown : w'.ownsRow E.M (τ.et r.kd) r.sz (E.hs k) r.len us)
  (hc : ∀ i j x, i < r.len → (r.cell .any i)[j]? = some x → ∃ u, us[i * r.sz + j]? = some u ∧ cd1 w' (E.F w' (if i < lo then .new else .any)) x u) :
  Den τ w0 E ⟨fr, stk, bx, upd rw' k e, dep⟩ aS w' := by
 have hrow' : ∀ g, (E.hs k).ownBlock = some g → E.ow g := (h.own k e0 m0.1 m0.2 he0 hm0).ow
 have heq : E.add k (E.hs k) = E := by
  have h1 : (fun j => if j = k then E.hs k else E.hs j) = E.hs := by
   funext j
   split
   · rename_i e; rw [e]
   · rfl
  have h2 : (fun g => E.ow g ∨ (E.hs k).ownBlock = some g) = E.ow := by
   funext g
   exact propext ⟨fun h => h.elim id (hrow' g), .inl⟩
  unfold Env.add
  rw [h1, h2]
 have hk : Keeps E E w w' := grown_keeps hg hrow' rfl fun g hg => .inl hg
 have hs : Shift E E ⟨fr, stk, bx, rw', dep⟩ ⟨fr, stk, bx, upd rw' k e, dep⟩ w' := by
  refine ⟨fun j _ => ⟨rfl, ?_⟩, fun _ _ => rfl⟩
  simp only [lk_upd]
  split
  · rename_i e1
    subst e1
    rw [he0]
    exact .inr (.inl ⟨m0.1, lo, m0.2, r, hm0, hm, hkd, hlen⟩)
  · exact entLike.refl _ _ _ _
 have hf0 := (h.own k e0 m0.1 m0.2 he0 hm0).fits
 have := h.setRow k fr stk bx w' _ hg (fun g hg => ⟨e0, m0, he0, hm0, hg⟩) (E.hs k) e lo r hm us (fun g hg' => ⟨.inr hg'.symm, Nat.lt_of_lt_of_le (h.owb g (hrow' g hg')).2 hg.size⟩)
  (by rw [← hlen]; unfold Rw.bts at hf0 ⊢; rw [← hkd]; exact hf0) hown (by rw [heq]; exact hc) ?_ ?_
 · rw [heq] at this; exact this
 · intro i f hf
   obtain ⟨b, hb, hd⟩ := h.fr i f hf
   rw [heq]
   exact ⟨b, hb, hs.frD hk hf hd⟩
 · intro j T cs hj
   rw [heq]
   exact ⟨cs, hj, fun us hd => hs.cells hk hj hd⟩
end
end Go.Proofs.YtjjpakdlkjaigaaGreat

/- A symbolic executor for loaded Go code: a row that is written no more; loads, stores, literals, appends. -/
namespace Go.Proofs.YtjjpakdlkjaigaaGreat
open Go.RowKit
section
variable {P : Program} {τ : Tys} {w0 : World} {E : Env} {aS : List (Array Value)} {a : Act} {w : World}
variable {k lo : Nat} {r : Rw} {s : St} {bs : List (Array Value)}
variable {fr : List (Nat × SV)} {stk : List (List (Nat × SV))} {bx : List (Nat × (TypeId × List SV))} {rw' : List (Nat × Ent)} {dep : Nat}
theorem cell_len (t : Tag) (r : Rw) (i : Nat) : (r.cell t i).length = r.sz := by cases r <;> rfl
theorem sz_pos (r : Rw) : 0 < r.sz := by cases r <;> simp [Rw.sz, Rw.kd, kdSz]
theorem cell_tag (t t' : Tag) (r : Rw) (i j : Nat) (x : SV) (h : (r.cell t i)[j]? = some x) : ∃ y, (r.cell t' i)[j]? = some y ∧ ∀ (w : World) (F : Nat → Prop) (u : Value), cd1 w F x u ↔ cd1 w F y u := by
 cases r with
 | msgs xs =>
   simp only [Rw.cell, GMsg.cells] at h ⊢
   match j, h with
   | 0, h | 1, h | 2, h | 4, h | 5, h | 6, h | 7, h | 8, h | 9, h | 10, h => simp at h; subst h; exact ⟨_, rfl, fun _ _ _ => Iff.rfl⟩
   | 3, h => simp at h; subst h; exact ⟨_, rfl, fun _ _ _ => Iff.rfl⟩
   | j + 11, h => simp at h
 | nodes xs =>
   simp only [Rw.cell, GNode.cells] at h ⊢
   match j, h with
   | 0, h | 1, h | 2, h | 3, h | 4, h | 5, h => simp at h; subst h; exact ⟨_, rfl, fun _ _ _ => Iff.rfl⟩
   | j + 6, h => simp at h
 | acts xs =>
   simp only [Rw.cell, GAct.cells] at h ⊢
   match j, h with
   | 0, h | 1, h | 2, h | 3, h | 4, h | 5, h | 6, h => simp at h; subst h; exact ⟨_, rfl, fun _ _ _ => Iff.rfl⟩
   | j + 7, h => simp at h
 | intss xs =>
   simp only [Rw.cell] at h ⊢
   match j, h with
   | 0, h => simp at h; subst h; exact ⟨_, rfl, fun _ _ _ => Iff.rfl⟩
   | j + 1, h => simp at h
 | _ => exact ⟨x, h, fun _ _ _ => Iff.rfl⟩
theorem flat_sc {t : Tag} {r : Rw} (h : r.flat = true) {i j : Nat} {x : SV} (hx : (r.cell t i)[j]? = some x) (w w' : World) (F F' : Nat → Prop) (u : Value) : cd1 w F x u ↔ cd1 w' F' x u := by
 have : ∀ x ∈ r.cell t i, ∀ t r, x ≠ .row t r := by
  cases r <;> first
   | (simp [Rw.flat] at h; done)
   | simp [Rw.cell, GItem.cells, GPeer.cells, GTold.cells, GCut.cells]
 have hne := this x (List.mem_of_getElem? hx)
 cases x with
 | row t r => exact absurd rfl (hne t r)
 | _ => exact Iff.rfl
theorem F_any {E : Env} {w : World} {t : Tag} {g : Nat} (h : E.F w t g) : E.F w .any g := ⟨h.1, trivial⟩
theorem cd1.any {w : World} {E : Env} {t : Tag} {x : SV} {u : Value} (h : cd1 w (E.F w t) x u) : cd1 w (E.F w .any) x u := by
 cases x <;> first
  | exact h
  | exact RowD.mono h (fun g hg _ => ⟨rfl, F_any hg⟩) fun _ _ h => h
theorem RowDen.any {w : World} {E : Env} {t : Tag} {r : Rw} {v : Value} (h : RowDen w (E.F w t) r v) : RowDen w (E.F w .any) r v := h.mono fun g hg _ => ⟨rfl, F_any hg⟩
theorem OwnD.unfz (h : OwnD τ E w k lo r) {g : Nat} (hg : (E.hs k).ownBlock = some g) : Go.Proofs.YtjjpakdlkjaigaaGreat.unfz w g := by
 obtain ⟨us, ⟨_, hrow⟩, _⟩ := h.row
 rcases hrow with ⟨hv, _⟩ | ⟨g', cap, cur, hv, _, hheap, _⟩
 · rw [hv] at hg; simp [Value.ownBlock] at hg
 · rw [hv] at hg
   simp [Value.ownBlock] at hg
   subst hg
   exact unfz_row hheap
theorem OwnD.read {F' : Nat → Prop} (h : OwnD τ E w k lo r) (hb : ∀ g, (E.hs k).ownBlock = some g → F' g) (hc : ∀ t g, E.F w t g → (t = .new ∨ ¬ r.len ≤ lo) → F' g) : RowDen w F' r (E.hs k) := by
 obtain ⟨us, hrow, hcell⟩ := h.row
 obtain ⟨hl, hrow⟩ := hrow
 have hcd : ∀ i j x, i < r.len → (r.cell .any i)[j]? = some x → ∃ u, us[i * r.sz + j]? = some u ∧ cd1 w F' x u := by
  intro i j x hi hx
  obtain ⟨u, hu, hd⟩ := hcell i j x hi hx
  refine ⟨u, hu, cd1.mono hd fun g hg _ => ⟨rfl, hc _ g hg ?_⟩⟩
  split
  · exact .inl rfl
  · exact .inr (by omega)
 refine ⟨h.fits, ?_⟩
 rcases hrow with ⟨hv, h0⟩ | ⟨g, cap, cur, hv, hg, hheap, hnc, hcap, hcs, htake⟩
 · exact ⟨none, 0, by rw [hv, h0], by omega, fun hp => by omega⟩
 · refine ⟨some ⟨g, 0, none⟩, cap, hv, hnc, fun hp => ⟨⟨g, 0, none⟩, rfl, rfl, hb g (by rw [hv]; rfl), fun i j x hi hx => ?_⟩⟩
   obtain ⟨u, hu, hd⟩ := hcd i j x hi hx
   refine ⟨u, ?_, hd⟩
   rw [Addr.add_lit, cell_of_row w g _ cur _ (0, 0) hheap]
   rw [← htake, List.getElem?_take] at hu
   split at hu
   · simpa using hu
   · simp at hu
theorem Ent.row_mine {e : Ent} {lo : Nat} {r : Rw} (h : e.mine = some (lo, r)) : e.row.2 = r := by cases e <;> simp [Ent.mine] at h <;> simp [Ent.row, h]
theorem Den.demote (h : Den τ w0 E ⟨fr, stk, bx, rw', dep⟩ aS w) (k : Nat) : ∃ E', E'.base = E.base ∧ E'.M = E.M ∧ E'.bs = E.bs ∧ E'.hs = E.hs ∧ Keeps E E' w w ∧ Shift E E' ⟨fr, stk, bx, rw', dep⟩ ⟨fr, stk, bx, demote1 rw' k, dep⟩ w ∧
  (∀ j, entLike w E' (E.hs j) (lk rw' j) (lk (demote1 rw' k) j)) ∧ Den τ w0 E' ⟨fr, stk, bx, demote1 rw' k, dep⟩ aS w := by
 unfold demote1
 cases hk : lk rw' k with
 | none =>
   exact ⟨E, rfl, rfl, rfl, rfl, Keeps.refl E w, Shift.refl E _ _ w rfl, fun j => entLike.refl _ _ _ _, h⟩
 | some e =>
   simp only
   cases hm : e.mine with
   | none =>
     cases e with
     | own r => simp [Ent.mine] at hm
     | part lo r => simp [Ent.mine] at hm
     | shared t r =>
       have hl : ∀ j, lk (upd rw' k (Ent.shared t r)) j = lk rw' j := by
        intro j
        rw [lk_upd]
        split
        · rename_i e; rw [e, hk]
        · rfl
       refine ⟨E, rfl, rfl, rfl, rfl, Keeps.refl E w, ⟨fun j _ => ⟨rfl, ?_⟩, fun _ _ => rfl⟩, fun j => ?_, ?_⟩
       · simp only [Ent.row]; rw [hl]; exact entLike.refl _ _ _ _
       · simp only [Ent.row]; rw [hl]; exact entLike.refl _ _ _ _
       · have hs : Shift E E ⟨fr, stk, bx, rw', dep⟩ ⟨fr, stk, bx, upd rw' k (Ent.shared t r), dep⟩ w := ⟨fun j _ => ⟨rfl, by simp only; rw [hl]; exact entLike.refl _ _ _ _⟩, fun _ _ => rfl⟩
         simp only [Ent.row]
         refine h.move (Keeps.refl E w) rfl (Below.refl _ _) hs rfl rfl h.owb ?_ ?_ h.bb ?_ ?_
         · intro j T cs hj
           obtain ⟨h1, us, h2, h3⟩ := h.box j T cs hj
           exact ⟨h1, us, h2, hs.cells (Keeps.refl E w) hj h3⟩
         · intro j e lo r' hj hm'
           simp only [hl] at hj
           exact h.own j e lo r' hj hm'
         · intro j j' b e m hj hj' hm'
           simp only [hl] at hj'
           exact h.br j j' b e m hj hj' hm'
         · intro j j' e e' m m' g hj hj'
           simp only [hl] at hj hj'
           exact h.rr j j' e e' m m' g hj hj'
   | some m =>
     obtain ⟨lo, r⟩ := m
     have hO := h.own k e lo r hk hm
     let E' : Env := { E with ow := fun g => E.ow g ∧ (E.hs k).ownBlock ≠ some g }
     have hkp : Keeps E E' w w := ⟨rfl, Nat.le_refl _, fun _ _ _ => rfl, fun g hg => .inl hg.1⟩
     have hF : ∀ t g, E.F w t g → E'.F w t g := fun t g hg => ⟨fun ho => hg.1 ho.1, hg.2⟩
     have hrd : RowDen w (E'.F w e.row.1) e.row.2 (E.hs k) := by
      rw [Ent.row_mine hm]
      obtain ⟨us, hrow, _⟩ := hO.row
      have hbM : ∀ g, (E.hs k).ownBlock = some g → E'.M ≤ g := fun g hg => (hrow.lt g hg).1
      have hb : ∀ g, (E.hs k).ownBlock = some g → E'.F w .new g := fun g hg => ⟨fun ho => ho.2 hg, hbM g hg, hO.unfz hg⟩
      cases e with
      | own r' =>
        simp [Ent.mine] at hm
        obtain ⟨rfl, rfl⟩ := hm
        exact hO.read hb fun t g hg ht => by
         rcases ht with rfl | ht
         · exact hF _ g hg
         · omega
      | part lo' r' =>
        simp [Ent.mine] at hm
        obtain ⟨rfl, rfl⟩ := hm
        simp only [Ent.row]
        cases hfl : r'.flat with
        | true =>
          simp only
          -- a flat row leads nowhere
          have hO' : OwnD τ E w k r'.len r' := by
           obtain ⟨us, hrow, hcell⟩ := hO.row
           refine ⟨hO.ow, hO.fits, us, hrow, fun i j x hi hx => ?_⟩
           obtain ⟨u, hu, hd⟩ := hcell i j x hi hx
           exact ⟨u, hu, (flat_sc hfl hx _ _ _ _ u).1 hd⟩
          exact hO'.read hb fun t g hg ht => by
           rcases ht with rfl | ht
           · exact hF _ g hg
           · omega
        | false =>
          simp only
          exact hO.read (fun g hg => F_any (hb g hg)) fun t g hg _ => F_any (hF t g hg)
      | shared t r' => simp [Ent.mine] at hm
     have hl : ∀ j, entLike w E' (E.hs j) (lk rw' j) (lk (upd rw' k (.shared e.row.1 e.row.2)) j) := by
      intro j
      rw [lk_upd]
      split
      · rename_i e1
        subst e1
        rw [hk]
        exact .inr (.inr ⟨lo, r, e.row.1, hm, by rw [Ent.row_mine hm], by rw [Ent.row_mine hm] at hrd; exact hrd⟩)
      · exact entLike.refl _ _ _ _
     have hs : Shift E E' ⟨fr, stk, bx, rw', dep⟩ ⟨fr, stk, bx, upd rw' k (.shared e.row.1 e.row.2), dep⟩ w := ⟨fun j _ => ⟨rfl, hl j⟩, fun _ _ => rfl⟩
     refine ⟨E', rfl, rfl, rfl, rfl, hkp, hs, hl, ?_⟩
     refine h.move hkp rfl (Below.refl _ _) hs rfl rfl (fun g hg => h.owb g hg.1) ?_ ?_ h.bb ?_ ?_
     · intro j T cs hj
       obtain ⟨h1, us, h2, h3⟩ := h.box j T cs hj
       exact ⟨⟨h1, fun hg => h.br j k _ e _ hj hk hm hg⟩, us, h2, hs.cells hkp hj h3⟩
     · intro j e' lo' r' hj hm'
       simp only [lk_upd] at hj
       split at hj
       · injection hj with hj; subst hj; simp [Ent.mine] at hm'
       · rename_i e1
         exact (h.own j e' lo' r' hj hm').keeps hkp rfl rfl (fun g hg => ⟨(h.own j e' lo' r' hj hm').ow g hg, fun hg' => h.rr j k e' e _ _ g hj hk hm' hm e1 hg hg'⟩) fun _ _ => rfl
     · intro j j' b e' m hj hj' hm'
       simp only [lk_upd] at hj'
       split at hj'
       · injection hj' with hj'; subst hj'; simp [Ent.mine] at hm'
       · exact h.br j j' b e' m hj hj' hm'
     · intro j j' e1 e2 m1 m2 g hj hj' h1 h2
       simp only [lk_upd] at hj hj'
       split at hj
       · injection hj with hj; subst hj; simp [Ent.mine] at h1
       · split at hj'
         · injection hj' with hj'; subst hj'; simp [Ent.mine] at h2
         · exact h.rr j j' e1 e2 m1 m2 g hj hj' h1 h2
end
end Go.Proofs.YtjjpakdlkjaigaaGreat

/- A symbolic executor for loaded Go code: rows and the cells that they are made of. -/
namespace Go.Proofs.YtjjpakdlkjaigaaGreat
open Go.RowKit
def tagLe (t : Tag) : SV → Prop
 | .row t' _ => t = .any ∨ t' = t
 | _ => True
theorem RowDen.flat {w : World} {F : Nat → Prop} {r : Rw} {v : Value} (h : RowDen w F r v) (hf : r.flat = true) : RowD sc w F r v := by
 obtain ⟨h0, A, c, hv, hn, h⟩ := h
 refine ⟨h0, A, c, hv, hn, fun hp => ?_⟩
 obtain ⟨ad, hA, hs, hF, hc⟩ := h hp
 refine ⟨ad, hA, hs, hF, fun i j x hi hx => ?_⟩
 obtain ⟨u, hu, hd⟩ := hc i j x hi hx
 refine ⟨u, hu, ?_⟩
 have : ∀ x ∈ r.cell .any i, ∀ t r, x ≠ .row t r := by
  cases r <;> first
   | (simp [Rw.flat] at hf; done)
   | simp [Rw.cell, GItem.cells, GPeer.cells, GTold.cells, GCut.cells]
 have hne := this x (List.mem_of_getElem? hx)
 cases x with
 | row t r => exact absurd rfl (hne t r)
 | _ => exact hd
theorem RowD.up {w : World} {F : Nat → Prop} {r : Rw} {v : Value} (h : RowD sc w F r v) : RowDen w F r v :=
 h.mono (fun g hg _ => ⟨rfl, hg⟩) fun x u hx => by cases x <;> first | exact hx | exact hx.elim
theorem empty_row {w : World} {F : Nat → Prop} {r : Rw} (h : r.len = 0) (cd : SV → Value → Prop) : RowD cd w F r (.slice none 0 0) :=
 ⟨by rw [h]; omega, none, 0, by rw [h], by omega, fun hp => by omega⟩
theorem Fit.cd {E : Env} {R : List (Nat × Ent)} {w : World} {y x : SV} {u : Value} {t : Tag} (h : Fit y x) (hy : vd1 E R w y u) (ht : tagLe t y) : cd1 w (E.F w t) x u := by
 cases y <;> cases x <;> first
  | exact h.elim
  | (obtain ⟨rfl, rfl⟩ := h; exact hy)
  | (obtain rfl : _ = _ := h; exact hy)
  | skip
 · -- a row
   rename_i t1 r1 t2 r2
   obtain ⟨rfl, hf⟩ := h
   have hy' : RowDen w (E.F w t1) r1 u := hy
   have : RowDen w (E.F w t) r1 u := by
    rcases ht with rfl | rfl
    · exact hy'.any
    · exact hy'
   exact this.flat hf
 · rename_i r1 t2 r2
   obtain ⟨rfl, _⟩ := h
   obtain ⟨rfl, h0⟩ := hy
   exact empty_row h0 _
theorem Fit.retag {y x x' : SV} (h : Fit y x) (hx : ∀ (w : World) (F : Nat → Prop) (u : Value), cd1 w F x u ↔ cd1 w F x' u) : True := trivial
theorem asBool_fit {x : SV} {b : Bool} (h : x.asBool = some b) : Fit x (.bool b) := by cases x <;> simp [SV.asBool] at h <;> exact h
theorem asInts_fit {x : SV} {l : List Int} {t : Tag} (h : x.asInts = some l) : Fit x (.row t (.ints l)) := by
 unfold SV.asInts at h
 split at h <;> simp at h <;> subst h <;> exact ⟨rfl, rfl⟩
theorem asPeers_fit {x : SV} {l : List GPeer} {t : Tag} (h : x.asPeers = some l) : Fit x (.row t (.peers l)) := by
 unfold SV.asPeers at h
 split at h <;> simp at h <;> subst h <;> exact ⟨rfl, rfl⟩
theorem asItems_fit {x : SV} {l : List GItem} {t : Tag} (h : x.asItems = some l) : Fit x (.row t (.items l)) := by
 unfold SV.asItems at h
 split at h <;> simp at h <;> subst h <;> exact ⟨rfl, rfl⟩
theorem asTolds_fit {x : SV} {l : List GTold} {t : Tag} (h : x.asTolds = some l) : Fit x (.row t (.tolds l)) := by
 unfold SV.asTolds at h
 split at h <;> simp at h <;> subst h <;> exact ⟨rfl, rfl⟩
theorem decInt_fit {c : List SV} {e : Int} (h : decInt c = some e) : FitL c [.int .i64 e] := by
 unfold decInt at h
 split at h
 · simp at h; subst h; exact .cons ⟨rfl, rfl⟩ .nil
 · simp at h
theorem decByte_fit {c : List SV} {e : Int} (h : decByte c = some e) : FitL c [.int .u8 e] := by
 unfold decByte at h
 split at h
 · simp at h; subst h; exact .cons ⟨rfl, rfl⟩ .nil
 · simp at h
theorem decStr_fit {c : List SV} {e : ByteArray} (h : decStr c = some e) : FitL c [.str e] := by
 unfold decStr at h
 split at h
 · simp at h; subst h; exact .cons rfl .nil
 · simp at h
theorem decItem_fit {c : List SV} {e : GItem} (h : decItem c = some e) : FitL c e.cells := by
 unfold decItem at h
 split at h
 · split at h
   · rename_i g hg
     simp at h; subst h
     exact .cons ⟨rfl, rfl⟩ (.cons ⟨rfl, rfl⟩ (.cons ⟨rfl, rfl⟩ (.cons ⟨rfl, rfl⟩ (.cons (asBool_fit hg) .nil))))
   · simp at h
 · simp at h
theorem decPeer_fit {c : List SV} {e : GPeer} (h : decPeer c = some e) : FitL c e.cells := by
 unfold decPeer at h
 split at h
 · simp at h; subst h
   exact .cons ⟨rfl, rfl⟩ (.cons ⟨rfl, rfl⟩ .nil)
 · simp at h
theorem decTold_fit {c : List SV} {e : GTold} (h : decTold c = some e) : FitL c e.cells := by
 unfold decTold at h
 split at h
 · split at h
   · rename_i g hg
     simp at h; subst h
     exact .cons ⟨rfl, rfl⟩ (.cons (asBool_fit hg) (.cons ⟨rfl, rfl⟩ .nil))
   · simp at h
 · simp at h
theorem decCut_fit {c : List SV} {e : GCut} (h : decCut c = some e) : FitL c e.cells := by
 unfold decCut at h
 split at h
 · simp at h; subst h
   exact .cons ⟨rfl, rfl⟩ (.cons ⟨rfl, rfl⟩ .nil)
 · simp at h
theorem decMsg_fit {c : List SV} {e : GMsg} (h : decMsg c = some e) (t : Tag) : FitL c (e.cells t) := by
 unfold decMsg at h
 split at h
 · split at h
   · rename_i h1 h2 h3
     simp at h; subst h
     exact .cons ⟨rfl, rfl⟩ (.cons ⟨rfl, rfl⟩ (.cons ⟨rfl, rfl⟩ (.cons (asInts_fit h1) (.cons ⟨rfl, rfl⟩ (.cons ⟨rfl, rfl⟩ (.cons ⟨rfl, rfl⟩ (.cons ⟨rfl, rfl⟩ (.cons ⟨rfl, rfl⟩ (.cons (asBool_fit h2) (.cons (asBool_fit h3) .nil))))))))))
   · simp at h
 · simp at h
theorem decNode_fit {c : List SV} {e : GNode} (h : decNode c = some e) (t : Tag) : FitL c (e.cells t) := by
 unfold decNode at h
 split at h
 · split at h
   · rename_i h1 h2 h3 h4 h5
     simp at h; subst h
     exact .cons (asBool_fit h1) (.cons ⟨rfl, rfl⟩ (.cons (asPeers_fit h2) (.cons (asInts_fit h3) (.cons (asItems_fit h4) (.cons (asTolds_fit h5) .nil)))))
   · simp at h
 · simp at h
theorem decAct_fit {c : List SV} {e : GAct} (h : decAct c = some e) (t : Tag) : FitL c (e.cells t) := by
 unfold decAct at h
 split at h
 · split at h
   · rename_i h1
     simp at h; subst h
     exact .cons ⟨rfl, rfl⟩ (.cons ⟨rfl, rfl⟩ (.cons ⟨rfl, rfl⟩ (.cons ⟨rfl, rfl⟩ (.cons (asInts_fit h1) (.cons ⟨rfl, rfl⟩ (.cons ⟨rfl, rfl⟩ .nil))))))
   · simp at h
 · simp at h
theorem decInts_fit {c : List SV} {e : List Int} (h : decInts c = some e) (t : Tag) : FitL c [.row t (.ints e)] := by
 unfold decInts at h
 split at h
 · exact .cons (asInts_fit h) .nil
 · simp at h
theorem decBool_fit {c : List SV} {e : Bool} (h : decBool c = some e) : FitL c [.bool e] := by
 unfold decBool at h
 split at h
 · exact .cons (asBool_fit h) .nil
 · simp at h
theorem decAll_get {α : Type} {dec : List SV → Option α} : ∀ {es : List (List SV)} {xs : List α}, decAll dec es = some xs → xs.length = es.length ∧ ∀ (i : Nat) c, es[i]? = some c → ∃ x, xs[i]? = some x ∧ dec c = some x
 | [], xs, h => by simp [decAll] at h; subst h; exact ⟨rfl, fun i c hc => by simp at hc⟩
 | c :: es, xs, h => by
   simp only [decAll] at h
   split at h
   · rename_i x xs' hx hxs
     simp at h
     subst h
     obtain ⟨h1, h2⟩ := decAll_get hxs
     refine ⟨by simp [h1], fun i d hd => ?_⟩
     cases i with
     | zero => simp at hd; subst hd; exact ⟨x, by simp, hx⟩
     | succ i => simpa using h2 i d (by simpa using hd)
   · simp at h
theorem mkRow_fit {k : Nat} {es : List (List SV)} {r : Rw} (h : mkRow k es = some r) : r.kd = k ∧ r.len = es.length ∧ ∀ (i : Nat) c, es[i]? = some c → FitL c (r.cell .any i) := by
 unfold mkRow at h
 split at h <;> first
  | (simp at h; done)
  | skip
 all_goals
  obtain ⟨xs, hxs, rfl⟩ := Option.map_eq_some_iff.1 h
  obtain ⟨h1, h2⟩ := decAll_get hxs
  refine ⟨rfl, h1, fun i c hc => ?_⟩
  obtain ⟨x, hx, hd⟩ := h2 i c hc
  simp only [Rw.cell, List.getD_eq_getElem?_getD, hx, Option.getD_some]
  first
   | exact decInt_fit hd
   | exact decByte_fit hd
   | exact decStr_fit hd
   | exact decPeer_fit hd
   | exact decItem_fit hd
   | exact decTold_fit hd
   | exact decCut_fit hd
   | exact decMsg_fit hd _
   | exact decNode_fit hd _
   | exact decAct_fit hd _
   | exact decInts_fit hd _
   | exact decBool_fit hd
theorem setE_fit {r r' : Rw} {i : Nat} {c : List SV} (h : r.setE i c = some r') (hi : i < r.len) : r'.kd = r.kd ∧ r'.len = r.len ∧ FitL c (r'.cell .any i) ∧ ∀ i', i' ≠ i → r'.cell .any i' = r.cell .any i' := by
 cases r <;> simp only [Rw.setE] at h <;> obtain ⟨x, hd, rfl⟩ := Option.map_eq_some_iff.1 h <;> simp only [Rw.len] at hi <;>
  refine ⟨rfl, by simp [Rw.len], ?_, fun i' hne => by simp [Rw.cell, List.getD_eq_getElem?_getD, List.getElem?_set_ne (Ne.symm hne)]⟩ <;>
  simp only [Rw.cell, List.getD_eq_getElem?_getD, List.getElem?_set_self hi, Option.getD_some] <;>
  first
   | exact decInt_fit hd
   | exact decByte_fit hd
   | exact decStr_fit hd
   | exact decPeer_fit hd
   | exact decItem_fit hd
   | exact decTold_fit hd
   | exact decCut_fit hd
   | exact decMsg_fit hd _
   | exact decNode_fit hd _
   | exact decAct_fit hd _
   | exact decInts_fit hd _
   | exact decBool_fit hd
theorem app_cell {r1 r2 r : Rw} (h : r1.app r2 = some r) : r.kd = r1.kd ∧ r.kd = r2.kd ∧ r.len = r1.len + r2.len ∧ (∀ t i, i < r1.len → r.cell t i = r1.cell t i) ∧ ∀ t i, r.cell t (r1.len + i) = r2.cell t i := by
 cases r1 <;> cases r2 <;> simp only [Rw.app] at h <;> first
  | (simp at h; done)
  | skip
 all_goals
  injection h with h
  subst h
  refine ⟨rfl, rfl, by simp [Rw.len], fun t i hi => ?_, fun t i => ?_⟩
  · simp only [Rw.len] at hi
    simp [Rw.cell, List.getD_eq_getElem?_getD, List.getElem?_append_left hi]
  · simp [Rw.cell, Rw.len, List.getD_eq_getElem?_getD, List.getElem?_append_right]
theorem zeros_cell (k n : Nat) (hk : k < 12) : (Rw.zeros k n).kd = k ∧ (Rw.zeros k n).len = n := by
 match k, hk with
 | 0, _ | 1, _ | 2, _ | 3, _ | 4, _ | 5, _ | 6, _ | 7, _ | 8, _ | 9, _ | 10, _ | 11, _ => exact ⟨rfl, by simp [Rw.zeros, Rw.len]⟩
end Go.Proofs.YtjjpakdlkjaigaaGreat

/- A symbolic executor for loaded Go code: each step is the machine's. -/
namespace Go.Proofs.YtjjpakdlkjaigaaGreat
open Go.RowKit
section
variable {P : Program} {τ : Tys} {w0 : World} {E : Env} {aS : List (Array Value)} {a : Act} {w : World}
variable {s : St} {bs : List (Array Value)} {o : Oper}
variable {fr : List (Nat × SV)} {stk : List (List (Nat × SV))} {bx : List (Nat × (TypeId × List SV))} {rw' : List (Nat × Ent)} {dep : Nat}
def OpGood (P : Program) (τ : Tys) (w0 : World) (E : Env) (aS : List (Array Value)) (o : Oper) (a : Act) (w : World) (s' : St) : Prop :=
 ∀ (next : Act → World → Prop) (Q : Exit → Act → World → Prop), (∀ E' v w', Den τ w0 E' s' ((a.put o.dst v).tmps :: aS) w' → E'.base = E.base → E'.M = E.M → next (a.put o.dst v) w') → o.wp P a w next Q
def RS.good (r : RS) (p : St → Prop) : Prop := match r with
 | .ok s => p s
 | .ob q s => q → p s
 | .bad => True
theorem opGood_value {s' : St} {E' : Env} {v : Value} {w' : World} (hr : (execOp a.eval o).run P w = .ok (.value v) w') (hd : Den τ w0 E' s' ((a.put o.dst v).tmps :: aS) w') (hb : E'.base = E.base) (hM : E'.M = E.M) : OpGood P τ w0 E aS o a w s' := by
 intro next Q h
 unfold Oper.wp
 rw [hr]
 exact h E' v w' hd hb hM
theorem opGood_skip {s' : St} {E' : Env} {w' : World} (hr : (execOp a.eval o).run P w = .ok .skip w') (hd : Den τ w0 E' s' ((a.put o.dst undef).tmps :: aS) w') (hb : E'.base = E.base) (hM : E'.M = E.M) : OpGood P τ w0 E aS o a w s' := by
 intro next Q h
 unfold Oper.wp
 rw [hr]
 exact h E' undef w' hd hb hM
theorem RV.to_good' (hd : Den τ w0 E ⟨fr, stk, bx, rw', dep⟩ (a.tmps :: aS) w) (hdst : ∀ t, o.dst = some t → t < a.tmps.size) {r : RV}
  (h : r.good fun x => ∃ z, (execOp a.eval o).run P w = .ok (.value z) w ∧ vd3 E rw' w x z) : (r.to o.dst ⟨fr, stk, bx, rw', dep⟩).good (OpGood P τ w0 E aS o a w) := by
 have key : ∀ x, (∃ z, (execOp a.eval o).run P w = .ok (.value z) w ∧ vd3 E rw' w x z) → OpGood P τ w0 E aS o a w (putv o.dst x ⟨fr, stk, bx, rw', dep⟩) := by
  rintro x ⟨z, hz, hv⟩
  exact opGood_value (v := z) (w' := w) hz (hd.put hv hdst) rfl rfl
 cases r with
 | bad => trivial
 | ok x => simp only [RV.to, SV.force_eq]; exact key x h
 | ob q x => simp only [RV.to, SV.force_eq]; exact fun hq => key x (h hq)
abbrev Yld (P : Program) (o : Oper) (a : Act) (w : World) (E : Env) (R : List (Nat × Ent)) (x : SV) : Prop := ∃ z, (execOp a.eval o).run P w = .ok (.value z) w ∧ vd3 E R w x z
theorem RV.ok_of {r : RV} {c : Sem Value} (hc : ∀ z, c.run P w = .ok z w → (execOp a.eval o).run P w = .ok (.value z) w) (h : r.good fun x => Gives (P := P) w c x E rw') : r.good (Yld P o a w E rw') := by
 cases r with
 | bad => trivial
 | ok x => obtain ⟨z, hz, hv⟩ := h; exact ⟨z, hc z hz, hv⟩
 | ob q x => intro hq; obtain ⟨z, hz, hv⟩ := h hq; exact ⟨z, hc z hz, hv⟩
theorem move_ok (hτ : TysOk P τ) (hd : Den τ w0 E ⟨fr, stk, bx, rw', dep⟩ (a.tmps :: aS) w) (x : Operand) (ho : o.op = .move x ∨ o.op = .assign x) :
  (RV.ok (rawT τ ⟨fr, stk, bx, rw', dep⟩ o.type x)).good (Yld P o a w E rw') :=
 RV.ok_of (c := pure (a.eval x)) (fun z hz => by
  obtain rfl : a.eval x = z := by simpa using hz
  rcases ho with ho | ho <;> simp [execOp, ho]) ⟨_, rfl, hd.rawT o.type x⟩
theorem move_good (hτ : TysOk P τ) (hd : Den τ w0 E ⟨fr, stk, bx, rw', dep⟩ (a.tmps :: aS) w) (hdst : ∀ t, o.dst = some t → t < a.tmps.size) (x : Operand) (ho : o.op = .move x ∨ o.op = .assign x) :
  ((RV.ok (rawT τ ⟨fr, stk, bx, rw', dep⟩ o.type x)).to o.dst ⟨fr, stk, bx, rw', dep⟩).good (OpGood P τ w0 E aS o a w) :=
 RV.to_good' hd hdst (move_ok hτ hd x ho)
theorem pick_ok (hd : Den τ w0 E ⟨fr, stk, bx, rw', dep⟩ (a.tmps :: aS) w) (c x y : Operand) (ho : o.op = .pick c x y) :
  (evPick (St.get ⟨fr, stk, bx, rw', dep⟩ c) (St.get ⟨fr, stk, bx, rw', dep⟩ x) (St.get ⟨fr, stk, bx, rw', dep⟩ y)).good (Yld P o a w E rw') := by
 refine RV.ok_of (c := do pure (if ← asBool (a.eval c) then a.eval x else a.eval y)) (fun z hz => ?_) ?_
 · simp only [execOp, ho]
   cases hc : (asBool (a.eval c)).run P w with
   | halt h w' => simp [hc, Result.andThen] at hz
   | ok t w' => simp [hc] at hz ⊢; exact hz
 have := evPick_ok (hd.get c) (hd.get x) (hd.get y)
 cases he : evPick (St.get ⟨fr, stk, bx, rw', dep⟩ c) (St.get ⟨fr, stk, bx, rw', dep⟩ x) (St.get ⟨fr, stk, bx, rw', dep⟩ y) with
 | bad => trivial
 | ok z => rw [he] at this; obtain ⟨t, h1, h2⟩ := this; exact ⟨_, by simp [h1, asBool], h2⟩
 | ob q z => rw [he] at this; intro hq; obtain ⟨t, h1, h2⟩ := this hq; exact ⟨_, by simp [h1, asBool], h2⟩
theorem pick_good (hd : Den τ w0 E ⟨fr, stk, bx, rw', dep⟩ (a.tmps :: aS) w) (hdst : ∀ t, o.dst = some t → t < a.tmps.size) (c x y : Operand) (ho : o.op = .pick c x y) :
  ((evPick (St.get ⟨fr, stk, bx, rw', dep⟩ c) (St.get ⟨fr, stk, bx, rw', dep⟩ x) (St.get ⟨fr, stk, bx, rw', dep⟩ y)).to o.dst ⟨fr, stk, bx, rw', dep⟩).good (OpGood P τ w0 E aS o a w) :=
 RV.to_good' hd hdst (pick_ok hd c x y ho)
theorem bin_ok (hτ : TysOk P τ) (hd : Den τ w0 E ⟨fr, stk, bx, rw', dep⟩ (a.tmps :: aS) w) (op : BinOp) (T T' : TypeId) (x y : Operand) (ho : o.op = .binOp op T x y T') :
  (evBin τ T op (St.get ⟨fr, stk, bx, rw', dep⟩ x) (St.get ⟨fr, stk, bx, rw', dep⟩ y)).good (Yld P o a w E rw') :=
 RV.ok_of (c := do eqGuard op T x y (a.eval x) (a.eval y); binOp op T (a.eval x) (a.eval y)) (fun z hz => by simp only [execOp, ho, Sem.run_bind, hz]; rfl) (evBin_ok hτ T x y (hd.get x) (hd.get y))
theorem bin_good (hτ : TysOk P τ) (hd : Den τ w0 E ⟨fr, stk, bx, rw', dep⟩ (a.tmps :: aS) w) (hdst : ∀ t, o.dst = some t → t < a.tmps.size) (op : BinOp) (T T' : TypeId) (x y : Operand) (ho : o.op = .binOp op T x y T') :
  ((evBin τ T op (St.get ⟨fr, stk, bx, rw', dep⟩ x) (St.get ⟨fr, stk, bx, rw', dep⟩ y)).to o.dst ⟨fr, stk, bx, rw', dep⟩).good (OpGood P τ w0 E aS o a w) :=
 RV.to_good' hd hdst (bin_ok hτ hd op T T' x y ho)
theorem un_ok (hd : Den τ w0 E ⟨fr, stk, bx, rw', dep⟩ (a.tmps :: aS) w) (op : UnOp) (T : TypeId) (x : Operand) (ho : o.op = .unOp op T x) :
  (evUn op (St.get ⟨fr, stk, bx, rw', dep⟩ x)).good (Yld P o a w E rw') :=
 RV.ok_of (c := Op.unary op (a.eval x)) (fun z hz => by simp only [execOp, ho, Sem.run_bind, hz]; rfl) (evUn_ok (hd.get x))
theorem un_good (hd : Den τ w0 E ⟨fr, stk, bx, rw', dep⟩ (a.tmps :: aS) w) (hdst : ∀ t, o.dst = some t → t < a.tmps.size) (op : UnOp) (T : TypeId) (x : Operand) (ho : o.op = .unOp op T x) :
  ((evUn op (St.get ⟨fr, stk, bx, rw', dep⟩ x)).to o.dst ⟨fr, stk, bx, rw', dep⟩).good (OpGood P τ w0 E aS o a w) :=
 RV.to_good' hd hdst (un_ok hd op T x ho)
theorem exists_list {α β : Type} {p : Nat → α → β → Prop} : ∀ (cs : List α), (∀ (j : Nat) x, cs[j]? = some x → ∃ u, p j x u) → ∃ us : List β, cs.length = us.length ∧ ∀ (j : Nat) x, cs[j]? = some x → ∃ u, us[j]? = some u ∧ p j x u := by
 intro cs
 induction cs generalizing p with
 | nil => exact fun _ => ⟨[], rfl, fun j x h => by simp at h⟩
 | cons c cs ih =>
   intro h
   obtain ⟨u, hu⟩ := h 0 c (by simp)
   obtain ⟨us, hl, hus⟩ := ih (p := fun j => p (j + 1)) fun j x hx => h (j + 1) x (by simpa using hx)
   refine ⟨u :: us, by simp [hl], fun j x hx => ?_⟩
   cases j with
   | zero => simp at hx; subst hx; exact ⟨u, by simp, hu⟩
   | succ j => simpa using hus j x (by simpa using hx)
theorem add_add {ad : Addr} (h : ad.spot = none) (m n : Nat) : (ad.add m).add n = ad.add (m + n) := by
 obtain ⟨b, o, sp⟩ := ad
 simp at h
 subst h
 simp only [Addr.add_lit, Nat.add_assoc]
theorem loadVar_run (hτ : TysOk P τ) {T : TypeId} {i : TI} (hi : τ.ti T = some i) (ad : Addr) (hs : ad.spot = none) (cs : List SV) (us : List Value) (off : Nat) (h : L0 (vd1 E rw' w) cs us) (hc : ∀ (j : Nat) u, us[j]? = some u → w.cell? (ad.add j) = some u) :
  (part' τ T cs off).good fun z => Gives (P := P) w (loadVar T (ad.add off)) z E rw' := by
 unfold part'
 rw [hi]
 simp only
 split
 · rename_i hag
   split
   · rename_i hle
     rw [forceL_eq]
     have hle' := Nat.le_of_ble_eq_true hle
     refine ⟨.agg (cut us off (τ.sz T)).toArray, ?_, ⟨_, rfl, (h.drop off).take _⟩⟩
     have hcut : (cut us off (τ.sz T)).length = τ.sz T := by simp [cut, ← h.1]; omega
     have := run_loadCells_list (P := P) w (ad.add off) (cut us off (τ.sz T)) (fun j v hv => by
      rw [add_add hs]
      refine hc _ v ?_
      simp only [cut, List.getElem?_take, List.getElem?_drop] at hv
      split at hv
      · exact hv
      · simp at hv)
     rw [hcut] at this
     simp [loadVar, hτ.isAgg hi, hag, hτ.szOf hi, this]
   · trivial
 · rename_i hag
   split
   · rename_i v hv
     rw [nth_eq] at hv
     obtain ⟨u, hu, hp⟩ := h.2 off v hv
     refine ⟨u, ?_, vd_of_vd1 hp⟩
     simp [loadVar, hτ.isAgg hi, hag, hc off u hu]
   · trivial
theorem vd1_of_cd {t : Tag} {x : SV} {u : Value} (h : cd1 w (E.F w t) x u) (hx : ∀ t' r, x = .row t' r → t' = t) : vd1 E rw' w x u := by
 cases x with
 | row t' r => obtain rfl := hx t' r rfl; exact RowD.up h
 | int k n => exact h
 | bool b => exact h
 | lit b => exact h
 | str s => exact h
 | _ => exact h.elim
theorem cd1.up {w : World} {F : Nat → Prop} {x : SV} {u : Value} (h : cd1 w F x u) : cd2 w F x u := by
 cases x <;> first
  | exact h
  | exact RowD.up h
theorem vd1_of_cd2 {t : Tag} {x : SV} {u : Value} (h : cd2 w (E.F w t) x u) (hx : ∀ t' r, x = .row t' r → t' = t) : vd1 E rw' w x u := by
 cases x with
 | row t' r => obtain rfl := hx t' r rfl; exact h
 | int k n => exact h
 | bool b => exact h
 | lit b => exact h
 | str s => exact h
 | _ => exact h.elim
theorem retag_get (t : Tag) : ∀ (cs : List SV) (j : Nat) (x : SV), (retag t cs)[j]? = some x → ∃ y, cs[j]? = some y ∧ (∀ t' r, x = .row t' r → t' = t) ∧ ∀ (w : World) (F : Nat → Prop) (u : Value), cd2 w F y u → cd2 w F x u
 | [], j, x, h => by simp [retag] at h
 | c :: cs, j, x, h => by
   cases j with
   | zero =>
     refine ⟨c, by simp, ?_⟩
     cases c <;> simp [retag] at h <;> subst h <;> refine ⟨fun t' r e => ?_, fun _ _ _ h => h⟩ <;> injection e <;> simp_all
   | succ j =>
     have : (retag t (c :: cs))[j + 1]? = (retag t cs)[j]? := by cases c <;> simp [retag]
     rw [this] at h
     simpa using retag_get t cs j x h
theorem cell_retag (t : Tag) (r : Rw) (i j : Nat) (x : SV) (h : (r.cell t i)[j]? = some x) : ∀ t' r', x = .row t' r' → t' = t := by
 intro t' r' e
 subst e
 have hm := List.mem_of_getElem? h
 cases r <;> simp [Rw.cell, GItem.cells, GPeer.cells, GTold.cells, GCut.cells, GMsg.cells, GNode.cells, GAct.cells] at hm <;> first
  | exact hm.1
  | (rcases hm with h | h | h | h <;> exact h.1)
theorem OwnD.elem {k lo : Nat} {r : Rw} (h : OwnD τ E w k lo r) {g n c : Nat} (hh : E.hs k = .slice (some ⟨g, 0, none⟩) n c) {i : Nat} (hi : i < r.len) {t : Tag} (ht : t = .new → i < lo) (ht' : t ≠ .old) :
  ∃ us : List Value, L0 (vd1 E rw' w) (r.cell t i) us ∧ ∀ (j : Nat) u, us[j]? = some u → w.cell? ((⟨g, i * r.sz, none⟩ : Addr).add j) = some u := by
 obtain ⟨us, hrow, hcell⟩ := h.row
 obtain ⟨vs, hl, hvs⟩ := exists_list (p := fun j x u => us[i * r.sz + j]? = some u ∧ vd1 E rw' w x u) (r.cell t i) fun j x hx => by
  obtain ⟨y, hy, hxy⟩ := cell_tag t .any r i j x hx
  obtain ⟨u, hu, hd⟩ := hcell i j y hi hy
  refine ⟨u, hu, vd1_of_cd (t := t) ?_ (cell_retag t r i j x hx)⟩
  rw [hxy]
  cases t with
  | old => exact absurd rfl ht'
  | new => rw [if_pos (ht rfl)] at hd; exact hd
  | any => exact cd1.any hd
 refine ⟨vs, ⟨hl, fun j x hx => ?_⟩, fun j u hu => ?_⟩
 · obtain ⟨u, hu, _, hd⟩ := hvs j x hx
   exact ⟨u, hu, hd⟩
 · have hj : j < (r.cell t i).length := by rw [hl]; exact (List.getElem?_eq_some_iff.1 hu).1
   obtain ⟨u', hu', hus, _⟩ := hvs j _ (List.getElem?_eq_getElem hj)
   rw [hu] at hu'
   injection hu' with hu'
   subst hu'
   have := hrow.cells (g := g) (by rw [hh]; rfl) _ _ hus
   rw [Addr.add_lit] at this ⊢
   simpa using this
theorem load_ok (hτ : TysOk P τ) (hd : Den τ w0 E ⟨fr, stk, bx, rw', dep⟩ aS w) (T : TypeId) {x : SV} {p : Value} (hx : vd3 E rw' w x p) :
  (evLoad τ ⟨fr, stk, bx, rw', dep⟩ T x).good fun z => Gives (P := P) w (Instr.loadAt T p) z E rw' := by
 by_cases hti : ¬ ∃ i, τ.ti T = some i
 · have : ∀ cs off, part' τ T cs off = .bad := by
    intro cs off
    unfold part'
    cases h : τ.ti T with
    | none => rfl
    | some i => exact absurd ⟨i, h⟩ hti
   unfold evLoad
   split
   · split
     · rw [this]; trivial
     · trivial
   · rw [forceL_eq, this]; trivial
   · split
     · rw [this]; trivial
     · rw [this]; trivial
     · trivial
   · trivial
 obtain ⟨i, hi⟩ := Classical.not_not.1 hti
 unfold evLoad
 split
 · rename_i k off
   obtain rfl : p = _ := hx
   split
   · rename_i T' cs hk
     obtain ⟨_, us, hheap, hcs⟩ := hd.box k T' cs hk
     have := loadVar_run hτ hi ⟨E.bs k, 0, none⟩ rfl cs us off hcs fun j u hu => by
      rw [Addr.add_lit, cell_of_row w _ _ _ _ _ hheap]
      simpa using hu
     simpa [Instr.loadAt, Instr.sureAddr, Addr.add_lit, Gives] using this
   · trivial
 · rename_i t cs
   obtain ⟨ad, rfl, hs, hlt, hF, hc⟩ := hx
   rw [forceL_eq]
   obtain ⟨us, hl, hus⟩ := exists_list (p := fun j x u => w.cell? (ad.add j) = some u ∧ vd1 E rw' w x u) (retag t cs) fun j x hx => by
    obtain ⟨y, hy, h1, h2⟩ := retag_get t cs j x hx
    obtain ⟨u, hu, hd⟩ := hc j y hy
    exact ⟨u, hu, vd1_of_cd2 (h2 _ _ _ hd) h1⟩
   have := loadVar_run (P := P) (E := E) (rw' := rw') hτ hi ad hs (retag t cs) us 0 ⟨hl, fun j x hx => let ⟨u, hu, _, hd⟩ := hus j x hx; ⟨u, hu, hd⟩⟩ fun j u hu => by
    have hj : j < (retag t cs).length := by rw [hl]; exact (List.getElem?_eq_some_iff.1 hu).1
    obtain ⟨u', hu', hc', _⟩ := hus j _ (List.getElem?_eq_getElem hj)
    rw [hu] at hu'
    injection hu' with hu'
    subst hu'
    exact hc'
   simpa [Instr.loadAt, Instr.sureAddr, Gives, Addr.add_zero'] using this
 · rename_i k j off
   simp only [vd3, vd2, vd1, vd0] at hx
   split
   · rename_i r hk
     rw [hk] at hx
     obtain ⟨g, n, c, hh, h0, h1, rfl⟩ := hx
     have hO := hd.own k _ _ _ hk rfl
     obtain ⟨us, hcs, hcell⟩ := hO.elem (rw' := rw') hh (i := j.toNat) (by omega) (t := .new) (fun _ => by omega) (by simp)
     have := loadVar_run (P := P) hτ hi ⟨g, j.toNat * r.sz, none⟩ rfl _ us off hcs hcell
     simpa [Instr.loadAt, Instr.sureAddr, Addr.add_lit, Gives] using this
   · rename_i lo r hk
     rw [hk] at hx
     obtain ⟨g, n, c, hh, h0, h1, rfl⟩ := hx
     have hO := hd.own k _ _ _ hk rfl
     obtain ⟨us, hcs, hcell⟩ := hO.elem (rw' := rw') hh (i := j.toNat) (by omega) (t := .any) (fun h => by simp at h) (by simp)
     have := loadVar_run (P := P) hτ hi ⟨g, j.toNat * r.sz, none⟩ rfl _ us off hcs hcell
     simpa [Instr.loadAt, Instr.sureAddr, Addr.add_lit, Gives] using this
   · trivial
 · trivial
end
end Go.Proofs.YtjjpakdlkjaigaaGreat

/- A symbolic executor for loaded Go code: each step is the machine's: boxes, literals, stores, addresses. -/
namespace Go.Proofs.YtjjpakdlkjaigaaGreat
open Go.RowKit
section
variable {P : Program} {τ : Tys} {w0 : World} {E : Env} {aS : List (Array Value)} {a : Act} {w : World}
variable {s : St} {bs : List (Array Value)} {o : Oper}
variable {fr : List (Nat × SV)} {stk : List (List (Nat × SV))} {bx : List (Nat × (TypeId × List SV))} {rw' : List (Nat × Ent)} {dep : Nat}
theorem loadOp_ok (hτ : TysOk P τ) (hd : Den τ w0 E ⟨fr, stk, bx, rw', dep⟩ (a.tmps :: aS) w) (T : TypeId) (x : Operand) (ho : o.op = .load T x) :
  (evLoad τ ⟨fr, stk, bx, rw', dep⟩ T (St.get ⟨fr, stk, bx, rw', dep⟩ x)).good (Yld P o a w E rw') :=
 RV.ok_of (c := Instr.loadAt T (a.eval x)) (fun z hz => by simp only [execOp, ho, Sem.run_bind, hz]; rfl) (load_ok hτ hd T (hd.get x))
theorem load_good (hτ : TysOk P τ) (hd : Den τ w0 E ⟨fr, stk, bx, rw', dep⟩ (a.tmps :: aS) w) (hdst : ∀ t, o.dst = some t → t < a.tmps.size) (T : TypeId) (x : Operand) (ho : o.op = .load T x) :
  ((evLoad τ ⟨fr, stk, bx, rw', dep⟩ T (St.get ⟨fr, stk, bx, rw', dep⟩ x)).to o.dst ⟨fr, stk, bx, rw', dep⟩).good (OpGood P τ w0 E aS o a w) :=
 RV.to_good' hd hdst (loadOp_ok hτ hd T x ho)
theorem vd1_of_vd3 {x : SV} {v : Value} (h : vd3 E rw' w x v) (h1 : ∀ cs, x ≠ .agg cs) (h2 : ∀ vs, x ≠ .tup vs) : vd1 E rw' w x v := by
 cases x <;> first | exact h | exact absurd rfl (h1 _) | exact absurd rfl (h2 _)
theorem cells_one {x : SV} (h1 : ∀ cs, x ≠ .agg cs) : x.cells = [x] := by cases x <;> first | rfl | exact absurd rfl (h1 _)
theorem cells_vd {x : SV} {v : Value} (hR : ∀ k e m, lk rw' k = some e → e.mine = some m → (E.hs k).oneCell' = true) (h : vd3 E rw' w x v) (ho : allOne rw' x.cells = true) : L0 (vd1 E rw' w) x.cells v.cells.toList := by
 by_cases ha : ∃ cs, x = .agg cs
 · obtain ⟨cs, rfl⟩ := ha
   obtain ⟨us, rfl, hu⟩ := h
   simpa [SV.cells, Value.cells] using hu
 · have h1 : ∀ cs, x ≠ .agg cs := fun cs e => ha ⟨cs, e⟩
   rw [cells_one h1] at ho ⊢
   have ho1 : oneOk rw' x = true := allOne_mem ho (List.mem_singleton.2 rfl)
   have h2 : ∀ vs, x ≠ .tup vs := fun vs e => by subst e; simp [oneOk] at ho1
   have hv1 := vd1_of_vd3 h h1 h2
   have hv := vd1_one hR hv1 ho1
   have : v.cells = #[v] := by cases v <;> first | rfl | simp [Value.oneCell'] at hv
   rw [this]
   exact .cons hv1 .nil
theorem aggLen (hτ : TysOk P τ) {T : TypeId} {i : TI} (hi : τ.ti T = some i) : ∃ x z, P.info? T = some x ∧ x.size = τ.sz T ∧ x.bytes = i.bytes ∧ x.zero = some z ∧ z.cells.size = τ.sz T ∧ ∀ E R w, L0 (vd0 E R w) i.zero z.cells.toList := by
 obtain ⟨x, z, h1, h2, h3, h4, h5, h6⟩ := (hτ.ti T i hi).info
 have : τ.sz T = i.sz := by simp [Tys.sz, hi]
 exact ⟨x, z, h1, by rw [this]; exact h2, h3, h4, by rw [this]; exact h5, h6⟩
theorem L0.up {cs : List SV} {us : List Value} (h : L0 (vd0 E rw' w) cs us) : L0 (vd1 E rw' w) cs us :=
 h.mono fun x u _ hp => by cases x <;> first | exact hp | exact hp.elim
theorem put_ptr (d : Tmp) {E' : Env} {w' : World} {bx' : List (Nat × (TypeId × List SV))} {R' : List (Nat × Ent)} {x : SV} {v : Value} (hd : Den τ w0 E' ⟨fr, stk, bx', R', dep⟩ (a.tmps :: aS) w') (hx : vd3 E' R' w' x v) (hdst : d < a.tmps.size) :
  Den τ w0 E' ⟨(d, x) :: fr, stk, bx', R', dep⟩ ((a.put (some d) v).tmps :: aS) w' := hd.put (d := some d) hx (fun t e => by injection e with e; subst e; exact hdst)
theorem ownsRow_alloc (M : Nat) (e : TypeId) (size n : Nat) (cur : Array Value) (hM : M ≤ w.heap.size) (hn : n ≤ maxLen) (hs : cur.size = n * size) :
  (w.alloc (.cells cur e)).ownsRow M e size (.slice (some ⟨w.heap.size, 0, none⟩) n n) n cur.toList := by
 refine ⟨by simpa using hs, .inr ⟨w.heap.size, n, cur, rfl, hM, heap_alloc_new w _, Nat.le_refl _, hn, hs, ?_⟩⟩
 rw [← hs]
 exact List.take_of_length_le (by simp)
theorem falses_cells : ∀ {cs : List SV} {us : List Value} {n : Nat}, falses cs n = true → L0 (vd0 E rw' w) cs us → us = List.replicate n (.bool false)
 | [], us, 0, _, h => by cases us with
   | nil => rfl
   | cons u us => exact absurd h.1 (by simp)
 | [], _, _ + 1, h, _ => by simp [falses] at h
 | x :: cs, us, 0, h, _ => by cases x <;> simp [falses] at h
 | x :: cs, us, n + 1, h, hl => by
   obtain ⟨u, us', rfl, h1, h2⟩ := hl.inv_cons
   cases x with
   | bool b => cases b with
     | false =>
       obtain rfl : u = .bool false := h1
       rw [List.replicate_succ, falses_cells (n := n) (by simpa [falses] using h) h2]
     | true => simp [falses] at h
   | _ => simp [falses] at h
theorem arrB_inv {T : TypeId} {i : TI} {n : Nat} (h : arrB τ T i = some n) : T = τ.et 11 ∧ falses i.zero n = true ∧ 0 < n ∧ n < 16777216 := by
 unfold arrB at h
 split at h
 · split at h
   · rename_i hT
     split at h
     · rename_i h1 h2 h3
       simp at h
       subst h
       exact ⟨Nat.eq_of_beq_eq_true hT, h1, by simpa [Nat.blt, Nat.succ_le_iff] using h2, Nat.lt_of_succ_le (Nat.le_of_ble_eq_true h3)⟩
     · simp at h
   · simp at h
 · simp at h
theorem alloc_good (hτ : TysOk P τ) (hd : Den τ w0 E ⟨fr, stk, bx, rw', dep⟩ (a.tmps :: aS) w) (hdst : ∀ t, o.dst = some t → t < a.tmps.size) (T : TypeId) (ho : o.op = .alloc T) :
  (stepAlloc τ T o.dst ⟨fr, stk, bx, rw', dep⟩).good (OpGood P τ w0 E aS o a w) := by
 unfold stepAlloc
 dsimp only
 split
 · rename_i d i hdd hi
   split
   · rename_i n hn
     split
     · rename_i hno
       obtain ⟨x, z, h1, h2, h3, h4, h5, h6⟩ := aggLen hτ hi
       obtain ⟨hT, hfl, hn0, hn1⟩ := arrB_inv hn
       have hfz := falses_cells hfl (h6 E rw' w)
       have hzn : z.cells.size = n := by simpa using congrArg List.length hfz
       have hv : ∀ g, (Value.slice (some ⟨w.heap.size, 0, none⟩) n n).ownBlock = some g → w.heap.size ≤ g ∧ g < (w.alloc (.cells z.cells T)).heap.size := by
        intro g hg
        simp [Value.ownBlock] at hg
        subst hg
        simp
       have hd2 := hd.newRow (dep + d) hno (w.alloc (.cells z.cells T)) (World.grownBy_alloc w _ none) (.slice (some ⟨w.heap.size, 0, none⟩) n n) (.own (.bools (List.replicate n false))) n (.bools (List.replicate n false)) (by simp [Ent.mine, Rw.len]) z.cells.toList hv
        (by simp [Rw.len, Rw.bts, Rw.kd, kdBytes]; omega)
        (by simp only [Rw.kd, Rw.sz, kdSz, Rw.len, List.length_replicate]; rw [← hT]; exact ownsRow_alloc _ _ _ _ _ hd.Mh (by unfold maxLen; omega) (by omega))
        (fun i j x hi hx => by
          simp only [Rw.len, List.length_replicate] at hi
          have hj : j = 0 := by
           have := (List.getElem?_eq_some_iff.1 hx).1
           simp [Rw.cell] at this
           omega
          subst hj
          simp [Rw.cell, List.getD_eq_getElem?_getD, hi] at hx
          subst hx
          refine ⟨.bool false, ?_, rfl⟩
          rw [hfz]
          simp [Rw.sz, Rw.kd, kdSz, hi])
       refine opGood_value (v := .pointer (some ⟨w.heap.size, 0, none⟩)) (E' := E.add (dep + d) (.slice (some ⟨w.heap.size, 0, none⟩) n n)) (w' := w.alloc (.cells z.cells T)) ?_ ?_ rfl rfl
       · simp [execOp, ho, Instr.alloc, zeroValue, typeInfo, h1, h4, newVar, newRow]
       · rw [hdd]
         refine put_ptr d hd2 ?_ (hdst d hdd)
         simp only [vd3, vd2, vd1, vd0, lk_upd, if_true]
         exact ⟨w.heap.size, n, n, by simp [Env.add], by omega, by simp [Rw.len]; omega, by simp⟩
     · trivial
   split
   · rename_i hno
     rw [forceL_eq, forceB_eq]
     obtain ⟨x, z, h1, h2, h3, h4, h5, h6⟩ := aggLen hτ hi
     obtain ⟨E', hb, hM, hbk, hd'⟩ := hd.newBox (dep + d) hno T i.zero z.cells.toList (fun E' _ _ _ _ => (h6 _ _ _).up)
     refine opGood_value (v := .pointer (some ⟨w.heap.size, 0, none⟩)) (w' := w.alloc (.cells z.cells T)) ?_ ?_ hb hM
     · simp [execOp, ho, Instr.alloc, zeroValue, typeInfo, h1, h4, newVar, newRow]
     · rw [hdd]
       exact put_ptr d hd' (by simp only [vd3, vd2, vd1, vd0, hbk]) (hdst d hdd)
   · trivial
 · trivial
theorem box_good (hτ : TysOk P τ) (hd : Den τ w0 E ⟨fr, stk, bx, rw', dep⟩ (a.tmps :: aS) w) (hdst : ∀ t, o.dst = some t → t < a.tmps.size) (T : TypeId) (x : Operand) (ho : o.op = .box T x) :
  (stepBox τ T x o.dst ⟨fr, stk, bx, rw', dep⟩).good (OpGood P τ w0 E aS o a w) := by
 unfold stepBox
 dsimp only
 split
 · rename_i d hdd
   split
   · rename_i hno
     simp only [SV.force_eq, forceL_eq]
     split
     · rename_i hall
       rw [forceB_eq]
       have hx := hd.getT T x
       have hc := cells_vd hd.hs_one hx hall
       have hno' : ∀ y, y ∈ (getT τ ⟨fr, stk, bx, rw', dep⟩ T x).cells → deep1 (box0 (dep + d)) y = true → False := by
        intro y hy hp
        have hg : deep3 (box0 (dep + d)) (getT τ ⟨fr, stk, bx, rw', dep⟩ T x) = true := by
         generalize getT τ ⟨fr, stk, bx, rw', dep⟩ T x = g at hy hall
         by_cases ha : ∃ cs, g = .agg cs
         · obtain ⟨cs, rfl⟩ := ha
           exact anyL_of_mem (p := deep1 (box0 (dep + d))) hy hp
         · rw [cells_one (fun cs e => ha ⟨cs, e⟩)] at hy hall
           obtain rfl := List.mem_singleton.1 hy
           have ho1 : oneOk rw' y = true := allOne_mem hall (List.mem_singleton.2 rfl)
           cases y <;> first | exact hp | (simp [oneOk] at ho1; done) | exact absurd ⟨_, rfl⟩ ha
        have : ∀ y, deep3 (box0 (dep + d)) (St.get ⟨fr, stk, bx, rw', dep⟩ y) = true → False := by
         intro y hy
         cases y with
         | tmp t =>
           have hy : deep3 (box0 (dep + d)) (lkv fr t) = true := by
            have hy : deep3 (box0 (dep + d)) (lkv fr t).cook = true := hy
            generalize lkv fr t = z at hy ⊢
            cases z <;> first | exact hy | (simp [SV.cook, deep3, deep2, deep1, box0] at hy; done)
           have := has_fr (s := ⟨fr, stk, bx, rw', dep⟩) (p := box0 (dep + d)) rfl (i := 0) (f := fr) rfl hy; rw [hno] at this; exact absurd this (by simp)
         | const v => cases v <;> simp [St.get, SV.ofVal, deep3, deep2, deep1, box0] at hy
         | func f => simp [St.get, deep3, deep2, deep1, anyL] at hy
         | global g => simp [St.get, deep3, deep2, deep1, box0] at hy
        unfold getT at hg
        split at hg
        · split at hg
          · simp [deep3, deep2, deep1, box0] at hg
          · simp [deep3, deep2, deep1, box0] at hg
        · exact this _ hg
       obtain ⟨E', hb, hM, hbk, hd'⟩ := hd.newBox (dep + d) hno T _ (a.eval x).cells.toList (fun E' h1 h2 h3 h4 => by
        have hk : Keeps E E' w (w.alloc (.cells (a.eval x).cells.toList.toArray T)) := ⟨h2, by simp, fun g _ hg => Below.heap_alloc w _ g hg, h4⟩
        refine hc.mono fun y u hy hp => vd1.keeps hk (fun j hj => ⟨by rw [h1], entLike.refl _ _ _ _⟩) (fun j hj => h3 j ?_) hp
        rintro rfl
        exact hno' y hy hj)
       refine opGood_value (v := .pointer (some ⟨w.heap.size, 0, none⟩)) (w' := w.alloc (.cells (a.eval x).cells T)) ?_ ?_ hb hM
       · simp [execOp, ho, Instr.box, newVar, newRow]
       · rw [hdd]
         simp only [Array.toArray_toList] at hd'
         exact put_ptr d hd' (by simp only [vd3, vd2, vd1, vd0, hbk]) (hdst d hdd)
     · trivial
   · trivial
 · trivial
theorem check_ok (hd : Den τ w0 E ⟨fr, stk, bx, rw', dep⟩ (a.tmps :: aS) w) (x : Operand) (ho : o.op = .nilCheck x) :
  (evCheck ⟨fr, stk, bx, rw', dep⟩ (St.get ⟨fr, stk, bx, rw', dep⟩ x)).good (Yld P o a w E rw') := by
 have hx := hd.get x
 have hp : ∀ p, a.eval x = .pointer (some p) → (execOp a.eval o).run P w = .ok (.value (a.eval x)) w := fun p hp => by simp [execOp, ho, hp]
 unfold evCheck
 split
 · rename_i h; rw [h] at hx; exact ⟨_, hp _ hx, hx⟩
 · rename_i h; rw [h] at hx; exact ⟨_, hp _ hx.choose_spec.1, hx⟩
 · rename_i k i off h
   split
   · rename_i r hk
     rw [h] at hx
     have hx' := hx
     simp only [vd3, vd2, vd1, vd0] at hx
     rw [hk] at hx
     obtain ⟨g, n, c, _, _, _, hv⟩ := hx
     exact ⟨_, hp _ hv, hx'⟩
   · rename_i lo r hk
     rw [h] at hx
     have hx' := hx
     simp only [vd3, vd2, vd1, vd0] at hx
     rw [hk] at hx
     obtain ⟨g, n, c, _, _, _, hv⟩ := hx
     exact ⟨_, hp _ hv, hx'⟩
   · trivial
 · rename_i h
   rw [h] at hx
   have hx' := hx
   obtain ⟨us, vs, hv, _⟩ := hx
   exact ⟨_, by simp [execOp, ho, hv], hx'⟩
 · trivial
theorem check_good (hd : Den τ w0 E ⟨fr, stk, bx, rw', dep⟩ (a.tmps :: aS) w) (hdst : ∀ t, o.dst = some t → t < a.tmps.size) (x : Operand) (ho : o.op = .nilCheck x) :
  ((evCheck ⟨fr, stk, bx, rw', dep⟩ (St.get ⟨fr, stk, bx, rw', dep⟩ x)).to o.dst ⟨fr, stk, bx, rw', dep⟩).good (OpGood P τ w0 E aS o a w) :=
 RV.to_good' hd hdst (check_ok hd x ho)
theorem field_ok (hτ : TysOk P τ) (hd : Den τ w0 E ⟨fr, stk, bx, rw', dep⟩ (a.tmps :: aS) w) (S : TypeId) (x : Operand) (j : Nat) (ho : o.op = .field S x j) :
  (evPart τ S j (St.get ⟨fr, stk, bx, rw', dep⟩ x)).good (Yld P o a w E rw') := by
 have hx := hd.get x
 refine RV.ok_of (c := Instr.field S (a.eval x) j) (fun z hz => by simp only [execOp, ho, Sem.run_bind, hz]; rfl) ?_
 unfold evPart
 split
 · rename_i fs cs htd hcs
   rw [hcs] at hx
   obtain ⟨us, hv, hu⟩ := hx
   split
   · rename_i off F hj
     obtain ⟨d, hdd, fa, rfl, hfa⟩ := hτ.td htd (by simp)
     have hj' := hfa j
     rw [hj] at hj'
     obtain ⟨f, hf, hfe⟩ := Option.map_eq_some_iff.1 hj'.symm
     simp only [Prod.mk.injEq] at hfe
     have := part_ok (P := P) hτ F cs us off hu
     rw [hv]
     simpa [Instr.field, run_underlying hdd, hf, hfe.1, hfe.2, asAgg, Gives] using this
   · trivial
 · trivial
theorem field_good (hτ : TysOk P τ) (hd : Den τ w0 E ⟨fr, stk, bx, rw', dep⟩ (a.tmps :: aS) w) (hdst : ∀ t, o.dst = some t → t < a.tmps.size) (S : TypeId) (x : Operand) (j : Nat) (ho : o.op = .field S x j) :
  ((evPart τ S j (St.get ⟨fr, stk, bx, rw', dep⟩ x)).to o.dst ⟨fr, stk, bx, rw', dep⟩).good (OpGood P τ w0 E aS o a w) :=
 RV.to_good' hd hdst (field_ok hτ hd S x j ho)
theorem fieldAddr_ok (hτ : TysOk P τ) (hd : Den τ w0 E ⟨fr, stk, bx, rw', dep⟩ (a.tmps :: aS) w) (S : TypeId) (x : Operand) (j : Nat) (ho : o.op = .fieldAddr S x j) :
  (evField τ ⟨fr, stk, bx, rw', dep⟩ S j (St.get ⟨fr, stk, bx, rw', dep⟩ x)).good (Yld P o a w E rw') := by
 have hx := hd.get x
 refine RV.ok_of (c := Instr.fieldAt S (a.eval x) j) (fun z hz => by simp only [execOp, ho, Sem.run_bind, hz]; rfl) ?_
 unfold evField
 split
 · rename_i fs htd
   split
   · rename_i off F hj
     obtain ⟨d, hdd, fa, rfl, hfa⟩ := hτ.td htd (by simp)
     have hj' := hfa j
     rw [hj] at hj'
     obtain ⟨f, hf, hfe⟩ := Option.map_eq_some_iff.1 hj'.symm
     simp only [Prod.mk.injEq] at hfe
     split
     · trivial
     · rename_i hz
       have hti : ∃ i, τ.ti F = some i := by
        cases h : τ.ti F with
        | none => simp [Tys.sz, h] at hz
        | some i => exact ⟨i, rfl⟩
       obtain ⟨i, hi⟩ := hti
       have hrun : ∀ ad : Addr, (Instr.fieldAt S (.pointer (some ad)) j).run P w = .ok (.pointer (some (ad.add off))) w := by
        intro ad
        have hne : τ.sz F ≠ 0 := fun e => by rw [e] at hz; simp at hz
        simp [Instr.fieldAt, run_underlying hdd, hf, Instr.sureAddr, fieldPlace, hfe.1, hfe.2, hτ.szOf hi, hne]
       split
       · rename_i h
         rw [h] at hx
         obtain hx : a.eval x = _ := hx
         exact ⟨_, by rw [hx]; exact hrun _, by simp only [vd3, vd2, vd1, vd0, Addr.add_lit]⟩
       · rename_i h
         rw [h] at hx
         obtain ⟨ad, hv, hs, hlt, hF, hc⟩ := hx
         rw [forceL_eq]
         refine ⟨_, by rw [hv]; exact hrun _, ad.add off, rfl, ?_, ?_, ?_, fun i x hx => ?_⟩
         · unfold Addr.add; split <;> simp [hs]
         · rw [show (ad.add off).block = ad.block by unfold Addr.add; split <;> rfl]; exact hlt
         · rw [show (ad.add off).block = ad.block by unfold Addr.add; split <;> rfl]; exact hF
         · rw [add_add hs]
           refine hc _ x ?_
           unfold cut at hx
           rw [List.getElem?_take] at hx
           split at hx
           · rw [List.getElem?_drop] at hx
             exact hx
           · simp at hx
       · rename_i k i' off' h
         rw [h] at hx
         simp only [vd3, vd2, vd1, vd0] at hx
         split
         · rename_i r hk
           rw [hk] at hx
           obtain ⟨g, n, c, hh, h0, h1, hv⟩ := hx
           refine ⟨_, by rw [hv]; exact hrun _, ?_⟩
           simp only [vd3, vd2, vd1, vd0]
           rw [hk]
           exact ⟨g, n, c, hh, h0, h1, by simp only [Addr.add_lit, Nat.add_assoc]⟩
         · rename_i lo r hk
           rw [hk] at hx
           obtain ⟨g, n, c, hh, h0, h1, hv⟩ := hx
           refine ⟨_, by rw [hv]; exact hrun _, ?_⟩
           simp only [vd3, vd2, vd1, vd0]
           rw [hk]
           exact ⟨g, n, c, hh, h0, h1, by simp only [Addr.add_lit, Nat.add_assoc]⟩
         · trivial
       · trivial
   · trivial
 · trivial
theorem fieldAddr_good (hτ : TysOk P τ) (hd : Den τ w0 E ⟨fr, stk, bx, rw', dep⟩ (a.tmps :: aS) w) (hdst : ∀ t, o.dst = some t → t < a.tmps.size) (S : TypeId) (x : Operand) (j : Nat) (ho : o.op = .fieldAddr S x j) :
  ((evField τ ⟨fr, stk, bx, rw', dep⟩ S j (St.get ⟨fr, stk, bx, rw', dep⟩ x)).to o.dst ⟨fr, stk, bx, rw', dep⟩).good (OpGood P τ w0 E aS o a w) :=
 RV.to_good' hd hdst (fieldAddr_ok hτ hd S x j ho)
end
end Go.Proofs.YtjjpakdlkjaigaaGreat

/- A symbolic executor for loaded Go code: each step is the machine's: literals. -/
namespace Go.Proofs.YtjjpakdlkjaigaaGreat
open Go.RowKit
section
variable {P : Program} {τ : Tys} {w0 : World} {E : Env} {aS : List (Array Value)} {a : Act} {w : World}
variable {s : St} {bs : List (Array Value)} {o : Oper}
variable {fr : List (Nat × SV)} {stk : List (List (Nat × SV))} {bx : List (Nat × (TypeId × List SV))} {rw' : List (Nat × Ent)} {dep : Nat}
theorem fold_splice (off : Nat) : ∀ (vs : List Value) (k : Nat) (cs : Array Value), off + k + vs.length ≤ cs.size →
  ((vs.zipIdx k).foldl (fun (cs : Array Value) (p : Value × Nat) => cs.setIfInBounds (off + p.2) p.1) cs).toList = cs.toList.take (off + k) ++ vs ++ cs.toList.drop (off + k + vs.length)
 | [], k, cs, _ => by simp
 | v :: vs, k, cs, h => by
   simp only [List.length_cons] at h
   have hlt : off + k < cs.toList.length := by simp; omega
   rw [List.zipIdx_cons, List.foldl_cons, fold_splice off vs (k + 1) _ (by simp; omega)]
   simp only [Array.toList_setIfInBounds, List.length_cons]
   rw [show off + (k + 1) = off + k + 1 by omega, List.take_set, List.drop_set_of_lt (by omega), List.take_succ_eq_append_getElem hlt,
    List.set_append_right _ _ (by simp; omega)]
   simp only [List.length_take, Nat.min_eq_left (Nat.le_of_lt hlt), Nat.sub_self, List.set_cons_zero]
   simp [show off + k + (vs.length + 1) = off + k + 1 + vs.length by omega]
theorem fill_one (off : Nat) (v cs : Array Value) (h : off + v.size ≤ cs.size) : (v.zipIdx.foldl (fun (cs : Array Value) (p : Value × Nat) => cs.setIfInBounds (off + p.2) p.1) cs).toList = cs.toList.take off ++ v.toList ++ cs.toList.drop (off + v.size) := by
 have := fold_splice off v.toList 0 cs (by simpa using h)
 simp only [Nat.add_zero, Array.length_toList] at this
 rw [← this, ← Array.foldl_toList, Array.toList_zipIdx]
theorem lay_ok (hτ : TysOk P τ) (hd : Den τ w0 E s (a.tmps :: aS) w) (place : Nat → Option (Nat × TypeId)) (pl : Nat → Option (Nat × Nat)) (hpl : ∀ i off T i', place i = some (off, T) → τ.ti T = some i' → pl i = some (off, τ.sz T))
  {α : Type} {bad : α} {K : List SV → α} {G : α → Prop} (hbad : G bad) : ∀ (parts : List (Nat × Operand)) (cs : List SV) (cells : Array Value), L0 (vd1 E s.rows w) cs cells.toList →
  (∀ cs' (cells' : Array Value), cs'.length = cs.length → L0 (vd1 E s.rows w) cs' cells'.toList → Instr.fill pl cells (parts.map fun x => (x.1, a.eval x.2)) = some cells' → G (K cs')) → G (lay bad τ s place parts cs K)
 | [], cs, cells, hc, hK => hK cs cells rfl hc rfl
 | (i, x) :: parts, cs, cells, hc, hK => by
   unfold lay
   split
   · rename_i off T hp
     rw [SV.force_eq]
     split
     · rename_i i' h1 h2 h3 h4
       rw [forceL_eq]
       have hx := cells_vd hd.hs_one (hd.getT T x) h3
       have hlen : (getT τ s T x).cells.length = τ.sz T := Nat.eq_of_beq_eq_true h1
       have hle : off + τ.sz T ≤ cs.length := Nat.le_of_ble_eq_true h2
       have hsz : (a.eval x).cells.size = τ.sz T := by have := hx.1; rw [hlen] at this; simpa using this.symm
       have hcl : cs.length = cells.size := by simpa using hc.1
       have hnew := hc.setRange hx off (by rw [hlen]; exact hle)
       rw [show (a.eval x).cells.toList.length = (a.eval x).cells.size by simp, ← fill_one off (a.eval x).cells cells (by omega)] at hnew
       refine lay_ok hτ hd place pl hpl hbad parts _ _ hnew fun cs' cells' hl' hc' hf => hK cs' cells' (hl'.trans (setRange_length _ _ _ (by rw [hlen]; exact hle))) hc' ?_
       simp only [List.map_cons, Instr.fill, hpl i off T i' hp h4]
       rw [if_neg (by simp; omega)]
       exact hf
     · exact hbad
   · exact hbad
theorem mapM_places {l : List Field} (h : ∀ f, f ∈ l → ∃ i, τ.ti f.type = some i) (hτ : TysOk P τ) : l.mapM (fun f => (P.info? f.type).map fun i => (f.offset, i.size)) = some (l.map fun f => (f.offset, τ.sz f.type)) := by
 induction l with
 | nil => rfl
 | cons f l ih =>
   obtain ⟨i, hi⟩ := h f (by simp)
   obtain ⟨x, z, hx, hs, _⟩ := (hτ.ti _ i hi).info
   have hsz : τ.sz f.type = i.sz := by simp [Tys.sz, hi]
   simp [List.mapM_cons, hx, ih (fun g hg => h g (by simp [hg])), hs, hsz]
theorem build_ok (hτ : TysOk P τ) (hd : Den τ w0 E ⟨fr, stk, bx, rw', dep⟩ (a.tmps :: aS) w) (T : TypeId) (parts : Array (Nat × Operand)) (ho : o.op = .build T parts) :
  (evBuild τ ⟨fr, stk, bx, rw', dep⟩ T parts).good (Yld P o a w E rw') := by
 unfold evBuild
 split
 rotate_left
 · trivial
 rename_i i hi
 obtain ⟨x, z, h1, h2, h3, h4, h5, h6⟩ := aggLen hτ hi
 have hfin : ∀ cs (cells : Array Value), L0 (vd1 E rw' w) cs cells.toList → P.built T (parts.map fun (i, x) => (i, a.eval x)).toList = some cells → Yld P o a w E rw' (.agg cs) := by
  intro cs cells hc hb
  refine ⟨.agg cells, ?_, cells.toList, by simp, hc⟩
  simp only [execOp, ho, Sem.run_bind, run_build w T _ cells hb, Result.andThen_ok]
  rfl
 split
 · rename_i fs htd
   obtain ⟨d, hu, hdd⟩ := (hτ.ti T i hi).und
   rw [htd] at hdd
   obtain ⟨fa, rfl, hfa⟩ := hdd
   have hall : ∀ f, f ∈ fa.toList → ∃ i, τ.ti f.type = some i := by
    intro f hf
    obtain ⟨j, hj, rfl⟩ := List.getElem_of_mem hf
    have := hfa j
    rw [show fa[j]? = some fa.toList[j] by simp [Array.getElem?_eq_getElem (show j < fa.size by simpa using hj)]] at this
    exact (hτ.ti T i hi).flds fs htd j _ this
   refine lay_ok (s := ⟨fr, stk, bx, rw', dep⟩) hτ hd _ (fun j => (fa.toList.map fun f => (f.offset, τ.sz f.type)).toArray[j]?) ?_ (bad := RV.bad) (G := fun r : RV => r.good (Yld P o a w E rw')) trivial parts.toList i.zero z.cells (h6 _ _ _).up ?_
   · intro j off F i' hp _
     have := hfa j
     rw [hp] at this
     obtain ⟨f, hf, hfe⟩ := Option.map_eq_some_iff.1 this.symm
     simp only [Prod.mk.injEq] at hfe
     simp [hf, hfe.1, hfe.2]
   · intro cs cells _ hc hf
     refine hfin cs cells hc ?_
     simp only [Program.built, h1, hu, h4, mapM_places hall hτ]
     rw [← hf]
     simp
 · rename_i n e htd
   obtain ⟨d, hu, hdd⟩ := (hτ.ti T i hi).und
   rw [htd] at hdd
   obtain rfl : d = _ := hdd
   obtain ⟨ie, hie⟩ := (hτ.ti T i hi).elem n e htd
   obtain ⟨xe, ze, g1, g2, g3, g4, g5, g6⟩ := aggLen hτ hie
   refine lay_ok (s := ⟨fr, stk, bx, rw', dep⟩) hτ hd _ (fun j => some (j * τ.sz e, τ.sz e)) ?_ (bad := RV.bad) (G := fun r : RV => r.good (Yld P o a w E rw')) trivial parts.toList i.zero z.cells (h6 _ _ _).up ?_
   · intro j off F i' hp _
     simp only [Option.some.injEq, Prod.mk.injEq] at hp
     rw [← hp.1, ← hp.2]
   · intro cs cells _ hc hf
     refine hfin cs cells hc ?_
     simp only [Program.built, h1, hu, h4, g1, g2]
     rw [← hf]
     simp
 · trivial
theorem build_good (hτ : TysOk P τ) (hd : Den τ w0 E ⟨fr, stk, bx, rw', dep⟩ (a.tmps :: aS) w) (hdst : ∀ t, o.dst = some t → t < a.tmps.size) (T : TypeId) (parts : Array (Nat × Operand)) (ho : o.op = .build T parts) :
  ((evBuild τ ⟨fr, stk, bx, rw', dep⟩ T parts).to o.dst ⟨fr, stk, bx, rw', dep⟩).good (OpGood P τ w0 E aS o a w) :=
 RV.to_good' hd hdst (build_ok hτ hd T parts ho)
theorem Den.demoteL : ∀ (cs : List SV) {E : Env} {rw' : List (Nat × Ent)}, Den τ w0 E ⟨fr, stk, bx, rw', dep⟩ bs w → ∃ E', E'.base = E.base ∧ E'.M = E.M ∧ E'.bs = E.bs ∧ E'.hs = E.hs ∧ Keeps E E' w w ∧
  Den τ w0 E' ⟨fr, stk, bx, Go.Proofs.YtjjpakdlkjaigaaGreat.demoteL cs rw', dep⟩ bs w ∧ (∀ x u, vd1 E rw' w x u → vd1 E' (Go.Proofs.YtjjpakdlkjaigaaGreat.demoteL cs rw') w x u) ∧
  (∀ x u, vd3 E rw' w x u → vd3 E' (Go.Proofs.YtjjpakdlkjaigaaGreat.demoteL cs rw') w x u)
 | [], E, rw', h => ⟨E, rfl, rfl, rfl, rfl, Keeps.refl E w, h, fun _ _ h => h, fun _ _ h => h⟩
 | x :: cs, E, rw', h => by
   by_cases hx : ∃ k, x = .own k
   · obtain ⟨k, rfl⟩ := hx
     obtain ⟨E1, h1, h2, h3, h4, h5, h6, h7, h8⟩ := h.demote k
     obtain ⟨E2, g1, g2, g3, g4, g5, g6, g7, g8⟩ := Den.demoteL cs h8
     have hkk : Keeps E E2 w w := ⟨g2.trans h2, Nat.le_refl _, fun _ _ _ => rfl, fun g hg => by
      rcases g5.ow g hg with hg | hg
      · exact h5.ow g hg
      · exact .inr hg⟩
     refine ⟨E2, g1.trans h1, g2.trans h2, g3.trans h3, g4.trans h4, hkk, g6, fun x u hu => g7 x u ?_, fun x u hu => g8 x u ?_⟩
     · exact vd1.keeps h5 (fun j _ => ⟨by rw [h4], h7 j⟩) (fun j _ => by rw [h3]) hu
     · exact vd3.keeps h5 ⟨fun j _ => ⟨by rw [h4], h7 j⟩, fun j _ => by rw [h3]⟩ hu
   · have : Go.Proofs.YtjjpakdlkjaigaaGreat.demoteL (x :: cs) rw' = Go.Proofs.YtjjpakdlkjaigaaGreat.demoteL cs rw' := by cases x <;> first | rfl | exact absurd ⟨_, rfl⟩ hx
     rw [this]
     exact Den.demoteL cs h
theorem resS_vd {R : List (Nat × Ent)} {x : SV} {u : Value} (h : vd1 E R w x u) : vd1 E R w (resS R x) u := by
 cases x with
 | own k =>
   simp only [resS]
   simp only [vd1, vd0] at h
   split
   · rename_i t r hk; rw [hk] at h; exact h
   · trivial
 | _ => exact h
theorem resSL_vd {R : List (Nat × Ent)} {cs : List SV} {us : List Value} (h : L0 (vd1 E R w) cs us) : L0 (vd1 E R w) (resSL R cs) us := by
 induction cs generalizing us with
 | nil => exact h
 | cons x cs ih =>
   obtain ⟨u, us', rfl, h1, h2⟩ := h.inv_cons
   exact .cons (resS_vd h1) (ih h2)
theorem allNew_mem {l : List SV} (h : allNew l = true) {x : SV} (hx : x ∈ l) : tagLe .new x := by
 induction l with
 | nil => simp at hx
 | cons y l ih =>
   rcases List.mem_cons.1 hx with rfl | hx'
   · cases x <;> try trivial
     rename_i t r
     cases t <;> simp [allNew] at h
     exact .inr rfl
   · have : allNew l = true := by
      cases y with
      | row t r => cases t <;> simp [allNew] at h <;> exact h
      | own k => simp [allNew] at h
      | box k off => simp [allNew] at h
      | _ => exact h
     exact ih this hx'
theorem chunks_get {α : Type} (sz : Nat) : ∀ (n : Nat) (l : List α) (i : Nat), i < n → (chunks sz n l)[i]? = some ((l.drop (i * sz)).take sz)
 | 0, _, i, h => by omega
 | n + 1, l, 0, _ => by simp [chunks]
 | n + 1, l, i + 1, h => by
   simp only [chunks, List.getElem?_cons_succ]
   rw [chunks_get sz n _ i (by omega), List.drop_drop]
   rw [show sz + i * sz = (i + 1) * sz by rw [Nat.add_mul, Nat.one_mul, Nat.add_comm]]
theorem chunks_len {α : Type} (sz : Nat) : ∀ (n : Nat) (l : List α), (chunks sz n l).length = n
 | 0, _ => rfl
 | n + 1, l => by simp [chunks, chunks_len sz n]
theorem made_cells {k n : Nat} {cs : List SV} {us : List Value} {r : Rw} (h : mkRow k (chunks (kdSz k) n cs) = some r) (hl : L0 (vd1 E rw' w) cs us) (hn : cs.length = n * kdSz k) (t : Tag) (ht : r.flat = true ∨ ∀ x, x ∈ cs → tagLe t x) :
  ∀ i j x, i < r.len → (r.cell .any i)[j]? = some x → ∃ u, us[i * r.sz + j]? = some u ∧ cd1 w (E.F w t) x u := by
 intro i j x hi hx
 obtain ⟨hk, hlen, hfit⟩ := mkRow_fit h
 rw [chunks_len] at hlen
 have hsz : r.sz = kdSz k := by unfold Rw.sz; rw [hk]
 obtain ⟨_, hf⟩ := hfit i _ (chunks_get (kdSz k) n cs i (by omega))
 obtain ⟨y, hy, hyx⟩ := hf j x hx
 rw [List.getElem?_take] at hy
 split at hy
 · rw [List.getElem?_drop] at hy
   obtain ⟨u, hu, hd⟩ := hl.2 _ y hy
   refine ⟨u, by rw [hsz]; exact hu, ?_⟩
   rcases ht with ht | ht
   · -- a flat row's cells are plain
     have h0 : cd1 w (E.F w .any) x u := hyx.cd hd (by cases y <;> simp [tagLe])
     exact (flat_sc ht hx _ _ _ _ u).1 h0
   · exact hyx.cd hd (ht y (List.mem_of_getElem? hy))
 · simp at hy
end
end Go.Proofs.YtjjpakdlkjaigaaGreat

/- A symbolic executor for loaded Go code: each step is the machine's: slices. -/
namespace Go.Proofs.YtjjpakdlkjaigaaGreat
open Go.RowKit
section
variable {P : Program} {τ : Tys} {w0 : World} {E : Env} {aS : List (Array Value)} {a : Act} {w : World}
variable {s : St} {bs : List (Array Value)} {o : Oper}
variable {fr : List (Nat × SV)} {stk : List (List (Nat × SV))} {bx : List (Nat × (TypeId × List SV))} {rw' : List (Nat × Ent)} {dep : Nat}
theorem cd1_add {E : Env} {k : Nat} {v : Value} {w' : World} {t : Tag} {x : SV} {u : Value} (h : cd1 w (E.F w t) x u) (hw : ∀ g, ¬ E.ow g → g < w.heap.size → w'.heap[g]? = w.heap[g]?) (hv : ∀ g, v.ownBlock = some g → w.heap.size ≤ g ∨ E.ow g) : cd1 w' ((E.add k v).F w' t) x u :=
 h.mono fun g hg hlt => ⟨hw g hg.1 hlt, ⟨fun ho => by
  rcases ho with ho | ho
  · exact hg.1 ho
  · rcases hv g ho with h1 | h1
    · omega
    · exact hg.1 h1, by
    cases t with
    | old => exact hg.2
    | new => exact ⟨hg.2.1, hg.2.2.of (hw g hg.1 hlt)⟩
    | any => trivial⟩⟩
theorem kdSz_pos (k : Nat) : 0 < kdSz k := by unfold kdSz; split <;> omega
theorem flatZeros_len (z : List SV) (n : Nat) : (flatZeros z n).length = n * z.length := by
 induction n with
 | zero => simp [flatZeros]
 | succ n ih => simp [flatZeros, ih, Nat.add_mul, Nat.add_comm]
theorem flatZeros_vd {z : List SV} {zs : List Value} (h : L0 (vd1 E rw' w) z zs) (n : Nat) : L0 (vd1 E rw' w) (flatZeros z n) ((List.range (n * zs.length)).map fun i => zs.getD (i % zs.length) undef) := by
 induction n with
 | zero => simpa [flatZeros] using L0.nil
 | succ n ih =>
   have : ((List.range ((n + 1) * zs.length)).map fun i => zs.getD (i % zs.length) undef) = zs ++ (List.range (n * zs.length)).map fun i => zs.getD (i % zs.length) undef := by
    apply List.ext_getElem?
    intro j
    by_cases hj : j < zs.length
    · rw [List.getElem?_append_left hj]
      have : j < (n + 1) * zs.length := by rw [Nat.add_mul, Nat.one_mul]; omega
      simp [this, Nat.mod_eq_of_lt hj, List.getD_eq_getElem?_getD, List.getElem?_eq_getElem hj]
    · rw [List.getElem?_append_right (by omega)]
      simp only [List.getElem?_map]
      by_cases hk : j < (n + 1) * zs.length
      · rw [List.getElem?_range hk, List.getElem?_range (by rw [Nat.add_mul, Nat.one_mul] at hk; omega)]
        simp only [Option.map_some]
        rw [Nat.mod_eq_sub_mod (by omega)]
      · rw [List.getElem?_eq_none (by simp; omega), List.getElem?_eq_none (by simp; rw [Nat.add_mul, Nat.one_mul] at hk; omega)]
   rw [this]
   exact h.append ih
theorem lit_good (hτ : TysOk P τ) (hd : Den τ w0 E ⟨fr, stk, bx, rw', dep⟩ (a.tmps :: aS) w) (hdst : ∀ t, o.dst = some t → t < a.tmps.size) (T : TypeId) (n : Nat) (parts : Array (Nat × Operand)) (ho : o.op = .buildSlice T n parts) :
  (stepLit τ T n parts o.dst ⟨fr, stk, bx, rw', dep⟩).good (OpGood P τ w0 E aS o a w) := by
 unfold stepLit
 dsimp only
 split
 rotate_left
 · trivial
 rename_i e d htd hdd
 split
 rotate_left
 · trivial
 rename_i k i hrk hi hle hno
 obtain ⟨hk10, het, i', hi', hsz, hby, _⟩ := hτ.rk e k hrk
 rw [hi] at hi'
 injection hi' with hi'
 subst hi'
 obtain ⟨x, z, h1, h2, h3, h4, h5, h6⟩ := aggLen hτ hi
 have hsz' : τ.sz e = kdSz k := by rw [← hsz]; simp [Tys.sz, hi]
 have hle' : n * τ.sz e ≤ 16777216 := Nat.le_of_ble_eq_true hle
 have hpos := kdSz_pos k
 have hz1 : L0 (vd1 E rw' w) i.zero z.cells.toList := (h6 _ _ _).up
 have hzl : z.cells.toList.length = τ.sz e := by simpa using h5
 let zc : Array Value := (Array.range (n * τ.sz e)).map (z.cells[· % z.cells.size]!)
 have hzc : zc.toList = (List.range (n * z.cells.toList.length)).map fun i => z.cells.toList.getD (i % z.cells.toList.length) undef := by
  have hzp : 0 < z.cells.size := by rw [h5]; omega
  simp only [zc, Array.toList_map, Array.toList_range, hzl]
  apply List.map_congr_left
  intro j _
  have hm : j % z.cells.size < z.cells.size := Nat.mod_lt _ hzp
  rw [getElem!_pos z.cells (j % z.cells.size) hm, ← h5]
  simp [List.getD_eq_getElem?_getD, Array.getElem?_eq_getElem hm]
 refine lay_ok (s := ⟨fr, stk, bx, rw', dep⟩) hτ hd _ (fun j => some (j * τ.sz e, τ.sz e)) ?_ (bad := RS.bad) (G := fun r : RS => r.good (OpGood P τ w0 E aS o a w)) trivial parts.toList _ zc (by rw [hzc]; exact flatZeros_vd hz1 n) ?_
 · intro j off F i' hp _
   simp only [Option.some.injEq, Prod.mk.injEq] at hp
   rw [← hp.1, ← hp.2]
 · intro cs cells hl0 hc hf
   have hrun : (execOp a.eval o).run P w = .ok (.value (.slice (some ⟨w.heap.size, 0, none⟩) n n)) (w.alloc (.cells cells e)) := by
    have hf' : Instr.fill (fun i => some (i * τ.sz e, τ.sz e)) zc (parts.map fun (i, x) => (i, a.eval x)).toList = some cells := by rw [← hf]; simp
    have hnb : ¬ (n * τ.sz e > 2 ^ 24) := by omega
    have hslice := hτ.slice htd
    simp only [execOp, ho, Instr.buildSlice, Sem.run_bind, run_underlying hslice, Result.andThen_ok, hτ.szOf hi, if_neg hnb, Sem.run_pure]
    by_cases hz0 : n * τ.sz e = 0
    · have hzc0 : zc = #[] := by simp [zc, hz0]
      rw [hzc0] at hf'
      simp only [hz0, if_true, Sem.run_pure, Result.andThen_ok, Array.range_zero', Array.map_empty, hf', newRow, Sem.run_bind, run_newObj]
      rfl
    · simp only [hz0, if_false, zeroValue, typeInfo, Sem.run_bind, run_program, Result.andThen_ok, h1, h4, Sem.run_pure]
      rw [show Instr.fill (fun i => some (i * τ.sz e, τ.sz e)) ((Array.range (n * τ.sz e)).map fun x => z.cells[x % z.cells.size]!) (parts.map fun (i, x) => (i, a.eval x)).toList = some cells from hf']
      simp only [newRow, Sem.run_bind, run_newObj, Result.andThen_ok, Sem.run_pure]
      rfl
   obtain ⟨E', g1, g2, g3, g4, hkp, hd1, g7, g8⟩ := hd.demoteL cs
   rw [forceR_eq, forceL_eq]
   have hc' : L0 (vd1 E' (demoteL cs rw') w) (resSL (demoteL cs rw') cs) cells.toList := resSL_vd (hc.mono fun x u _ h => g7 x u h)
   have hcl : cells.size = n * kdSz k := by
    have h1 := hc.1
    rw [hl0, flatZeros_len, hz1.1, hzl, hsz'] at h1
    simpa using h1.symm
   have hlen : (resSL (demoteL cs rw') cs).length = n * kdSz k := by rw [hc'.1]; simpa using hcl
   have hfin : ∀ r ent lo t, mkRow k (chunks (kdSz k) n (resSL (demoteL cs rw') cs)) = some r → ent.mine = some (lo, r) → (lo = r.len ∧ t = Tag.new ∨ lo = 0 ∧ t = .any) → (r.flat = true ∨ ∀ x, x ∈ resSL (demoteL cs rw') cs → tagLe t x) →
     OpGood P τ w0 E aS o a w ⟨(d, .own (dep + d)) :: fr, stk, bx, upd (demoteL cs rw') (dep + d) ent, dep⟩ := by
    intro r ent lo t hr hm hlo ht
    obtain ⟨hkd, hrl, _⟩ := mkRow_fit hr
    rw [chunks_len] at hrl
    have hrsz : r.sz = kdSz k := by unfold Rw.sz; rw [hkd]
    have hmade := made_cells hr hc' hlen t ht
    have hv : ∀ g, (Value.slice (some ⟨w.heap.size, 0, none⟩) n n).ownBlock = some g → w.heap.size ≤ g ∧ g < (w.alloc (.cells cells e)).heap.size := by
     intro g hg
     simp [Value.ownBlock] at hg
     subst hg
     simp
    have hnn : n ≤ 16777216 := by
     have : n * 1 ≤ n * τ.sz e := Nat.mul_le_mul_left _ (by omega)
     omega
    have hd2 := hd1.newRow (dep + d) hno (w.alloc (.cells cells e)) (World.grownBy_alloc w _ none) (.slice (some ⟨w.heap.size, 0, none⟩) n n) ent lo r hm cells.toList hv
     (by unfold Rw.bts; rw [hkd, hrl]; have : kdBytes k ≤ 112 := by unfold kdBytes; split <;> omega
         calc n * kdBytes k ≤ 16777216 * 112 := Nat.mul_le_mul hnn this
          _ ≤ _ := by omega)
     (by rw [hrl, hrsz, hkd, het]; exact ownsRow_alloc _ _ _ _ _ hd1.Mh (by unfold maxLen; omega) hcl)
     (fun i j x hi hx => by
       obtain ⟨u, hu, hcd⟩ := hmade i j x hi hx
       refine ⟨u, hu, ?_⟩
       have hcd' : cd1 w (E'.F w (if i < lo then .new else .any)) x u := by
        rcases hlo with ⟨rfl, rfl⟩ | ⟨rfl, rfl⟩
        · rw [if_pos hi]; exact hcd
        · rw [if_neg (by omega)]; exact hcd
       exact cd1_add hcd' (fun g _ hg => Below.heap_alloc w _ g hg) (fun g hg => .inl (hv g hg).1))
    refine opGood_value (E' := E'.add (dep + d) (.slice (some ⟨w.heap.size, 0, none⟩) n n)) hrun ?_ g1 g2
    rw [hdd]
    refine put_ptr d hd2 ?_ (hdst d hdd)
    simp only [vd3, vd2, vd1, vd0, lk_upd, if_true]
    cases ent with
    | own r => simp [Env.add]
    | part lo r => simp [Env.add]
    | shared t r => simp [Ent.mine] at hm
   rw [hsz']
   split
   · rename_i r hr
     split
     · rename_i hfl
       exact hfin r _ r.len .new hr rfl (.inl ⟨rfl, rfl⟩) (.inl hfl)
     · rename_i hfl hall
       exact hfin r _ r.len .new hr rfl (.inl ⟨rfl, rfl⟩) (.inr fun x hx => allNew_mem hall hx)
     · rename_i hfl hall
       exact hfin r _ 0 .any hr rfl (.inr ⟨rfl, rfl⟩) (.inr fun x hx => by cases x <;> simp [tagLe])
   · trivial
end
end Go.Proofs.YtjjpakdlkjaigaaGreat

/- A symbolic executor for loaded Go code: each step is the machine's: stores, indices, and what else there is. -/
namespace Go.Proofs.YtjjpakdlkjaigaaGreat
open Go.RowKit
section
variable {P : Program} {τ : Tys} {w0 : World} {E : Env} {aS : List (Array Value)} {a : Act} {w : World}
variable {s : St} {bs : List (Array Value)} {o : Oper}
variable {fr : List (Nat × SV)} {stk : List (List (Nat × SV))} {bx : List (Nat × (TypeId × List SV))} {rw' : List (Nat × Ent)} {dep : Nat}
theorem splice_get {α : Type} (us ws : List α) (n : Nat) (h : n + ws.length ≤ us.length) (j : Nat) :
  (us.take n ++ ws ++ us.drop (n + ws.length))[j]? = if j < n then us[j]? else if j < n + ws.length then ws[j - n]? else us[j]? := by
 by_cases h1 : j < n
 · rw [if_pos h1, List.append_assoc, List.getElem?_append_left (by simp; omega), List.getElem?_take, if_pos h1]
 · rw [if_neg h1]
   by_cases h2 : j < n + ws.length
   · rw [if_pos h2, List.append_assoc, List.getElem?_append_right (by simp; omega)]
     simp only [List.length_take, Nat.min_eq_left (show n ≤ us.length by omega)]
     rw [List.getElem?_append_left (by omega)]
   · rw [if_neg h2, List.getElem?_append_right (by simp; omega)]
     simp only [List.length_append, List.length_take, Nat.min_eq_left (show n ≤ us.length by omega), List.getElem?_drop]
     congr 1
     omega
theorem storeElem (hd : Den τ w0 E ⟨fr, stk, bx, rw', dep⟩ aS w) {k : Nat} {ent : Ent} {lo : Nat} {r : Rw} (hk : lk rw' k = some ent) (hm : ent.mine = some (lo, r)) {g n c i off : Nat} (hh : E.hs k = .slice (some ⟨g, 0, none⟩) n c) (hi : i < r.len)
  {vs : List SV} {ws : List Value} (hv : L0 (vd1 E rw' w) vs ws) (hw1 : ∀ u ∈ ws, u.oneCell' = true) (hl : off + vs.length ≤ r.sz) (t : Tag) {r' : Rw} (hr : r.setE i (setRange (r.cell t i) off vs) = some r') (ent' : Ent) (lo' : Nat) (hm' : ent'.mine = some (lo', r'))
  (hnew : i < lo' → r'.flat = true ∨ ((∀ x, x ∈ vs → tagLe .new x) ∧ (i < lo ∨ ∀ x, x ∈ setRange (r.cell t i) off vs → tagLe .new x))) (hother : ∀ j, j ≠ i → j < lo' → j < lo) (hold : t ≠ .old) (htn : t = .new → i < lo) :
  ∃ w', (storeCells ⟨g, i * r.sz + off, none⟩ ws).run P w = .ok () w' ∧ Den τ w0 E ⟨fr, stk, bx, upd rw' k ent', dep⟩ aS w' := by
 have hO := hd.own k ent lo r hk hm
 obtain ⟨us, hrow, hcell⟩ := hO.row
 obtain ⟨hul, hrow'⟩ := hrow
 rcases hrow' with ⟨hv0, h0⟩ | ⟨g', cap, cur, hv0, hg, hheap, hnc, hcap, hcs, htake⟩
 · rw [hh] at hv0; simp at hv0
 rw [hh] at hv0
 injection hv0 with hg1 hn1 hc1
 injection hg1 with hg1
 injection hg1 with hg1
 subst hg1
 obtain ⟨hkd, hlen, hfit, hoth⟩ := setE_fit hr hi
 have hsz : r'.sz = r.sz := Rw.sz_of_kd hkd
 have hin : i * r.sz + r.sz ≤ r.len * r.sz := by rw [← Nat.succ_mul]; exact Nat.mul_le_mul_right _ hi
 have hcur : r.len * r.sz ≤ cur.size := by rw [hcs]; exact Nat.mul_le_mul_right _ hnc
 have hvl : vs.length = ws.length := hv.1
 have hrun := run_storeCells_at P g (i * r.sz + off) (τ.et r.kd) ws 0 cur w hheap (by simp; omega) hw1
 simp only [Nat.add_zero] at hrun
 refine ⟨_, hrun, ?_⟩
 have how : E.ow g := hO.ow g (by rw [hh]; rfl)
 have hgr : w.grownBy (w.setRow g (cur.toList.take (i * r.sz + off) ++ ws ++ cur.toList.drop (i * r.sz + off + ws.length)).toArray) (E.hs k).ownBlock :=
  ⟨rfl, rfl, rfl, by simp, fun j _ hj => setRow_other w g j _ (fun e => hj (by rw [hh, e]; rfl))⟩
 have hkp := keeps_setRow hd how (cur.toList.take (i * r.sz + off) ++ ws ++ cur.toList.drop (i * r.sz + off + ws.length)).toArray
 have hus : us.length = r.len * r.sz := hul
 refine hd.writeRow k _ hgr hk hm ent' lo' r' hm' (by simpa using hkd.symm) (by simpa using hlen.symm) (us.take (i * r.sz + off) ++ ws ++ us.drop (i * r.sz + off + ws.length)) ?_ ?_
 · refine ⟨by simp [hlen, hsz]; omega, .inr ⟨g, cap, _, by rw [hh, hlen, hn1, hc1], hg, by rw [hkd]; exact setRow_heap w g _ _ _ _ hheap, by rw [hlen]; exact hnc, hcap, ?_, ?_⟩⟩
   · simp only [List.size_toArray, List.length_append, List.length_take, List.length_drop, Array.length_toList, hsz]
     omega
   · rw [hlen, hsz]
     apply List.ext_getElem?
     intro j
     rw [List.getElem?_take]
     have h1 := splice_get cur.toList ws (i * r.sz + off) (by simp; omega) j
     have h2 := splice_get us ws (i * r.sz + off) (by omega) j
     rw [h2]
     have hcu : ∀ m, m < r.len * r.sz → cur.toList[m]? = us[m]? := by
      intro m hm2
      rw [← htake, List.getElem?_take, if_pos hm2]
     split
     · rename_i hj
       rw [show (cur.toList.take (i * r.sz + off) ++ ws ++ cur.toList.drop (i * r.sz + off + ws.length)).toArray.toList = cur.toList.take (i * r.sz + off) ++ ws ++ cur.toList.drop (i * r.sz + off + ws.length) from rfl, h1, hcu j hj]
     · rename_i hj
       rw [if_neg (by omega), if_neg (by omega), List.getElem?_eq_none (by omega)]
 · intro i' j x hi' hx
   rw [hlen] at hi'
   have hj : j < r.sz := by
    have := (List.getElem?_eq_some_iff.1 hx).1
    rw [cell_len, hsz] at this
    exact this
   rw [hsz]
   by_cases he : i' = i
   · subst he
     obtain ⟨y, hy, hyx⟩ := hfit.2 j x hx
     rw [setRange_eq vs _ off (by rw [cell_len]; exact hl)] at hy
     have hsp := splice_get (r.cell t i') vs off (by rw [cell_len]; exact hl) j
     rw [hsp] at hy
     have hu2 := splice_get us ws (i' * r.sz + off) (by omega) (i' * r.sz + j)
     have hymem : y ∈ setRange (r.cell t i') off vs := by
      rw [setRange_eq vs _ off (by rw [cell_len]; exact hl)]
      exact List.mem_of_getElem? (by rw [hsp]; exact hy)
     by_cases hjo : off ≤ j ∧ j < off + vs.length
     · -- what is stored
       rw [if_neg (by omega), if_pos (by omega)] at hy
       obtain ⟨u, hu, hdu⟩ := hv.2 _ y hy
       refine ⟨u, ?_, ?_⟩
       · rw [hu2, if_neg (by omega), if_pos (by omega)]
         rw [show i' * r.sz + j - (i' * r.sz + off) = j - off by omega]
         exact hu
       · have hdu' : vd1 E rw' (w.setRow g (cur.toList.take (i' * r.sz + off) ++ ws ++ cur.toList.drop (i' * r.sz + off + ws.length)).toArray) y u := vd1.keeps hkp (fun _ _ => ⟨rfl, entLike.refl _ _ _ _⟩) (fun _ _ => rfl) hdu
         split
         · rename_i hlo
           rcases hnew hlo with hf | ⟨hn, _⟩
           · have h0 : cd1 (w.setRow g (cur.toList.take (i' * r.sz + off) ++ ws ++ cur.toList.drop (i' * r.sz + off + ws.length)).toArray) (E.F (w.setRow g (cur.toList.take (i' * r.sz + off) ++ ws ++ cur.toList.drop (i' * r.sz + off + ws.length)).toArray) .any) x u := hyx.cd hdu' (by cases y <;> simp [tagLe])
             exact (flat_sc hf hx _ _ _ _ u).1 h0
           · exact hyx.cd hdu' (hn y (List.mem_of_getElem? hy))
         · exact hyx.cd hdu' (by cases y <;> simp [tagLe])
     · -- what stood there
       have hy' : (r.cell t i')[j]? = some y := by
        split at hy
        · exact hy
        · split at hy
          · omega
          · exact hy
       obtain ⟨y2, hy2, hyy⟩ := cell_tag t .any r i' j y hy'
       obtain ⟨u, hu, hdu⟩ := hcell i' j y2 hi hy2
       refine ⟨u, ?_, ?_⟩
       · rw [hu2]
         have hlj : ¬ (i' * r.sz + off ≤ i' * r.sz + j ∧ i' * r.sz + j < i' * r.sz + off + ws.length) := by omega
         split
         · exact hu
         · split
           · omega
           · exact hu
       · -- told by the row aS it was
         have hda : vd1 E rw' w y u := by
          refine vd1_of_cd (t := t) ?_ (cell_retag t r i' j y hy')
          rw [hyy]
          cases t with
          | old => exact absurd rfl hold
          | new => rw [if_pos (htn rfl)] at hdu; exact hdu
          | any => exact cd1.any hdu
         have hda' : vd1 E rw' (w.setRow g (cur.toList.take (i' * r.sz + off) ++ ws ++ cur.toList.drop (i' * r.sz + off + ws.length)).toArray) y u := vd1.keeps hkp (fun _ _ => ⟨rfl, entLike.refl _ _ _ _⟩) (fun _ _ => rfl) hda
         split
         · rename_i hlo
           rcases hnew hlo with hf | ⟨_, h1 | h1⟩
           · have h0 : cd1 (w.setRow g (cur.toList.take (i' * r.sz + off) ++ ws ++ cur.toList.drop (i' * r.sz + off + ws.length)).toArray) (E.F (w.setRow g (cur.toList.take (i' * r.sz + off) ++ ws ++ cur.toList.drop (i' * r.sz + off + ws.length)).toArray) .any) x u := hyx.cd hda' (by cases y <;> simp [tagLe])
             exact (flat_sc hf hx _ _ _ _ u).1 h0
           · rw [if_pos h1] at hdu
             have hdn : vd1 E rw' w y2 u ∨ cd1 w (E.F w .new) y2 u := .inr hdu
             have h3 : cd1 w (E.F w .new) y u := (hyy _ _ _).2 hdu
             have h4 : cd1 (w.setRow g (cur.toList.take (i' * r.sz + off) ++ ws ++ cur.toList.drop (i' * r.sz + off + ws.length)).toArray) (E.F (w.setRow g (cur.toList.take (i' * r.sz + off) ++ ws ++ cur.toList.drop (i' * r.sz + off + ws.length)).toArray) .new) y u := cd1.mono h3 (hkp.F _)
             -- a cell of a row, read back aS a cell of a row
             cases y <;> cases x <;> first
              | exact hyx.elim
              | (obtain ⟨rfl, _⟩ := hyx; exact h4)
              | (obtain ⟨rfl, rfl⟩ := hyx; exact h4)
              | (obtain rfl : _ = _ := hyx; exact h4)
              | exact h4.elim
           · exact hyx.cd hda' (h1 y hymem)
         · exact hyx.cd hda' (by cases y <;> simp [tagLe])
   · -- another element
     have hne := hoth i' he
     rw [hne] at hx
     obtain ⟨u, hu, hdu⟩ := hcell i' j x hi' hx
     refine ⟨u, ?_, ?_⟩
     · rw [splice_get us ws (i * r.sz + off) (by omega) (i' * r.sz + j)]
       have hdis : ¬ (i * r.sz + off ≤ i' * r.sz + j ∧ i' * r.sz + j < i * r.sz + off + ws.length) := by
        rcases Nat.lt_or_gt_of_ne he with h1 | h1
        · have : (i' + 1) * r.sz ≤ i * r.sz := Nat.mul_le_mul_right _ h1
          rw [Nat.succ_mul] at this
          omega
        · have : (i + 1) * r.sz ≤ i' * r.sz := Nat.mul_le_mul_right _ h1
          rw [Nat.succ_mul] at this
          omega
       split
       · exact hu
       · split
         · omega
         · exact hu
     · have h0 := cd1.mono hdu (hkp.F _)
       split
       · rename_i hlo
         rw [if_pos (hother i' he hlo)] at h0
         exact h0
       · exact cd1.any h0
end
end Go.Proofs.YtjjpakdlkjaigaaGreat

/- A symbolic executor for loaded Go code: each step is the machine's: stores, indices, and what else there is. -/
namespace Go.Proofs.YtjjpakdlkjaigaaGreat
open Go.RowKit
section
variable {P : Program} {τ : Tys} {w0 : World} {E : Env} {aS : List (Array Value)} {a : Act} {w : World}
variable {s : St} {bs : List (Array Value)} {o : Oper}
variable {fr : List (Nat × SV)} {stk : List (List (Nat × SV))} {bx : List (Nat × (TypeId × List SV))} {rw' : List (Nat × Ent)} {dep : Nat}
theorem setRange_mem {α : Type} {vs : List α} {x : α} (hx : x ∈ vs) : ∀ (cs : List α) (off : Nat), off + vs.length ≤ cs.length → x ∈ setRange cs off vs := by
 intro cs off h
 rw [setRange_eq vs cs off h]
 simp [hx]
theorem store_good (hτ : TysOk P τ) (hd : Den τ w0 E ⟨fr, stk, bx, rw', dep⟩ (a.tmps :: aS) w) (hdst : o.dst = none) (T : TypeId) (x v : Operand) (ho : o.op = .store T x v) :
  (stepStore τ T x v ⟨fr, stk, bx, rw', dep⟩).good (OpGood P τ w0 E aS o a w) := by
 unfold stepStore
 simp only [SV.force_eq]
 split
 rotate_left
 · trivial
 rename_i i hlen hone hi
 have hx := hd.get x
 have hv := hd.getT T v
 have hlen' : (getT τ ⟨fr, stk, bx, rw', dep⟩ T v).cells.length = τ.sz T := Nat.eq_of_beq_eq_true hlen
 have hc := cells_vd hd.hs_one hv hone
 have hw1 : ∀ u ∈ (a.eval v).cells.toList, u.oneCell' = true := hc.one fun y u hy hp => vd1_one hd.hs_one hp (allOne_mem hone hy)
 have hvsz : (a.eval v).cells.size = τ.sz T := by have := hc.1; rw [hlen'] at this; simpa using this.symm
 have hrun : ∀ ad w', (storeCells ad (a.eval v).cells.toList).run P w = .ok () w' → a.eval x = .pointer (some ad) → (execOp a.eval o).run P w = .ok .skip w' := by
  intro ad w' h1 h2
  simp only [execOp, ho, Instr.storeAt, h2, Instr.sureAddr, storeVar, Sem.run_bind, Sem.run_pure, Result.andThen_ok, hτ.szOf hi, hvsz, ne_eq, not_true_eq_false, if_false, h1]
 split
 · -- a box
   rename_i k off hk
   rw [hk] at hx
   obtain hx : a.eval x = .pointer (some ⟨E.bs k, off, none⟩) := hx
   split
   · rename_i T' cs hb
     split
     · rename_i hle
       have hle' : off + τ.sz T ≤ cs.length := Nat.le_of_ble_eq_true hle
       rw [forceB_eq]
       obtain ⟨cur, hheap, hcu, hd'⟩ := hd.setBox hb (off := off) (by rw [hlen']; exact hle') hc
       have hst := run_storeCells_at P (E.bs k) off T' (a.eval v).cells.toList 0 cur w hheap (by simpa using hcu) hw1
       simp only [Nat.add_zero] at hst
       refine opGood_skip (hrun _ _ hst hx) ?_ rfl rfl
       rw [hdst]
       exact hd'
     · trivial
   · trivial
 · -- an element of an own row
   rename_i k j off hk
   rw [hk] at hx
   obtain ⟨E', g1, g2, g3, g4, hkp, hd1, g7, g8⟩ := hd.demoteL (getT τ ⟨fr, stk, bx, rw', dep⟩ T v).cells
   have hx' := g8 _ _ hx
   have hc' := resSL_vd (hc.mono fun x u _ h => g7 x u h)
   have hcl : (resSL (demoteL (getT τ ⟨fr, stk, bx, rw', dep⟩ T v).cells rw') (getT τ ⟨fr, stk, bx, rw', dep⟩ T v).cells).length = τ.sz T := by rw [hc'.1]; simpa using hvsz
   rw [forceR_eq, forceL_eq]
   simp only [vd3, vd2, vd1, vd0] at hx'
   split
   · rename_i r hR
     rw [hR] at hx'
     obtain ⟨g, n, c, hh, h0, h1, hxv⟩ := hx'
     split
     · rename_i r' hset hnew hle
       have hle' : off + τ.sz T ≤ r.sz := Nat.le_of_ble_eq_true hle
       obtain ⟨w', hst, hd2⟩ := storeElem (P := P) hd1 hR rfl hh (i := j.toNat) (off := off) (by omega) hc' hw1 (by rw [hcl]; exact hle') .new hset (.own r') r'.len rfl
        (fun hi' => .inr ⟨fun x hx => allNew_mem hnew hx, .inl (by omega)⟩) (fun j' _ hj' => by
          have := (setE_fit hset (by omega)).2.1
          omega) (by simp) (fun _ => by omega)
       refine opGood_skip (hrun _ _ hst hxv) ?_ g1 g2
       rw [hdst]
       exact hd2
     · rename_i hnew hle
       have hle' : off + τ.sz T ≤ r.sz := Nat.le_of_ble_eq_true hle
       split
       · rename_i r' hset
         obtain ⟨w', hst, hd2⟩ := storeElem (P := P) hd1 hR rfl hh (i := j.toNat) (off := off) (by omega) hc' hw1 (by rw [hcl]; exact hle') .any hset (.part 0 r') 0 rfl
          (fun hi' => absurd hi' (Nat.not_lt_zero _)) (fun j' _ hj' => absurd hj' (Nat.not_lt_zero _)) (by simp) (fun h => by simp at h)
         refine opGood_skip (hrun _ _ hst hxv) ?_ g1 g2
         rw [hdst]
         exact hd2
       · trivial
     · trivial
   · rename_i lo r hR
     rw [hR] at hx'
     obtain ⟨g, n, c, hh, h0, h1, hxv⟩ := hx'
     split
     · rename_i r' hset hle
       have hle' : off + τ.sz T ≤ r.sz := Nat.le_of_ble_eq_true hle
       have hlr : off + (resSL (demoteL (getT τ ⟨fr, stk, bx, rw', dep⟩ T v).cells rw') (getT τ ⟨fr, stk, bx, rw', dep⟩ T v).cells).length ≤ (r.cell .any j.toNat).length := by rw [hcl, cell_len]; exact hle'
       split
       · rename_i hnew
         obtain ⟨w', hst, hd2⟩ := storeElem (P := P) hd1 hR rfl hh (i := j.toNat) (off := off) (by omega) hc' hw1 (by rw [hcl]; exact hle') .any hset (.part (loStep lo j) r') (loStep lo j) rfl
          (fun hi' => .inr ⟨fun x hx => allNew_mem hnew (setRange_mem hx _ _ hlr), .inr fun x hx => allNew_mem hnew hx⟩) (fun j' hj1 hj' => by
            unfold loStep at hj'
            split at hj' <;> omega) (by simp) (fun h => by simp at h)
         refine opGood_skip (hrun _ _ hst hxv) ?_ g1 g2
         rw [hdst]
         exact hd2
       · split
         · rename_i hnew
           obtain ⟨w', hst, hd2⟩ := storeElem (P := P) hd1 hR rfl hh (i := j.toNat) (off := off) (by omega) hc' hw1 (by rw [hcl]; exact hle') .any hset (.part lo r') lo rfl
            (fun hi' => .inr ⟨fun x hx => allNew_mem hnew hx, .inl hi'⟩) (fun j' _ hj' => hj') (by simp) (fun h => by simp at h)
           refine opGood_skip (hrun _ _ hst hxv) ?_ g1 g2
           rw [hdst]
           exact hd2
         · obtain ⟨w', hst, hd2⟩ := storeElem (P := P) hd1 hR rfl hh (i := j.toNat) (off := off) (by omega) hc' hw1 (by rw [hcl]; exact hle') .any hset (.part 0 r') 0 rfl
            (fun hi' => absurd hi' (Nat.not_lt_zero _)) (fun j' _ hj' => absurd hj' (Nat.not_lt_zero _)) (by simp) (fun h => by simp at h)
           refine opGood_skip (hrun _ _ hst hxv) ?_ g1 g2
           rw [hdst]
           exact hd2
     · trivial
   · trivial
 · trivial
theorem RowDen.elem {t : Tag} {r : Rw} {v : Value} (h : RowDen w (E.F w t) r v) {i : Nat} (hi : i < r.len) : ∃ ad c, v = .slice (some ad) r.len c ∧ ad.spot = none ∧ ad.block < w.heap.size ∧ E.F w t ad.block ∧
  ∀ (j : Nat) x, (r.cell t i)[j]? = some x → ∃ u, w.cell? ((ad.add (i * r.sz)).add j) = some u ∧ cd2 w (E.F w t) x u := by
 obtain ⟨h0, A, c, hv, hn, h⟩ := h
 obtain ⟨ad, rfl, hs, hF, hc⟩ := h (by omega)
 have hcell : ∀ (j : Nat) x, (r.cell t i)[j]? = some x → ∃ u, w.cell? ((ad.add (i * r.sz)).add j) = some u ∧ cd2 w (E.F w t) x u := by
  intro j x hx
  obtain ⟨y, hy, hxy⟩ := cell_tag t .any r i j x hx
  obtain ⟨u, hu, hd⟩ := hc i j y hi hy
  exact ⟨u, by rw [add_add hs]; exact hu, ((hxy _ _ _).2 hd).up⟩
 refine ⟨ad, c, hv, hs, ?_, hF, hcell⟩
 have hl : 0 < (r.cell t i).length := by rw [cell_len]; exact sz_pos r
 obtain ⟨u, hu, _⟩ := hcell 0 _ (List.getElem?_eq_getElem hl)
 have := World.block_lt_of_cell? w _ hu
 have hb : ((ad.add (i * r.sz)).add 0).block = ad.block := by simp [Addr.add]; split <;> rfl
 rw [hb] at this
 exact this
theorem index_run (hτ : TysOk P τ) {T e : TypeId} (htd : τ.td T = .slice e) {i : TI} (hi : τ.ti e = some i) {ad : Addr} {n c : Nat} {k : IntKind} {j : Int} (h0 : 0 ≤ j) (h1 : j < n) :
  (Instr.indexAt T (.slice (some ad) n c) (.int k j)).run P w = .ok (.pointer (some (ad.add (j.toNat * τ.sz e)))) w := by
 have hs := hτ.slice htd
 simp [Instr.indexAt, run_underlying hs, asIntOf, h0, h1, hτ.szOf hi]
theorem shared_index (hτ : TysOk P τ) {T e : TypeId} (htd : τ.td T = .slice e) {t : Tag} {r : Rw} (hsz : Nat.beq (τ.sz e) r.sz = true) {v : Value} (h : RowDen w (E.F w t) r v) {k : IntKind} {j : Int} (h0 : 0 ≤ j) (h1 : j < r.len) :
  Gives (P := P) w (Instr.indexAt T v (.int k j)) (.pt t (r.cell t j.toNat)) E rw' := by
 have hsz' : τ.sz e = r.sz := Nat.eq_of_beq_eq_true hsz
 have hti : ∃ i, τ.ti e = some i := by
  cases hc : τ.ti e with
  | none => have := sz_pos r; simp [Tys.sz, hc] at hsz'; omega
  | some i => exact ⟨i, rfl⟩
 obtain ⟨i, hi⟩ := hti
 obtain ⟨ad, c, rfl, hs, hlt, hF, hc⟩ := h.elem (i := j.toNat) (by omega)
 have hb : (ad.add (j.toNat * r.sz)).block = ad.block := by unfold Addr.add; split <;> rfl
 refine ⟨_, index_run hτ htd hi h0 h1, ad.add (j.toNat * τ.sz e), rfl, ?_, ?_, ?_, ?_⟩
 · unfold Addr.add; split <;> simp [hs]
 · rw [hsz', hb]; exact hlt
 · rw [hsz', hb]; exact hF
 · rw [hsz']; exact hc
theorem own_index (hτ : TysOk P τ) {T e : TypeId} (htd : τ.td T = .slice e) {k0 lo : Nat} {r : Rw} (hO : OwnD τ E w k0 lo r) (hsz : Nat.beq (τ.sz e) r.sz = true) {k : IntKind} {j : Int} (h0 : 0 ≤ j) (h1 : j < r.len) :
  ∃ g c, E.hs k0 = .slice (some ⟨g, 0, none⟩) r.len c ∧ (Instr.indexAt T (E.hs k0) (.int k j)).run P w = .ok (.pointer (some ⟨g, j.toNat * r.sz + 0, none⟩)) w := by
 have hsz' : τ.sz e = r.sz := Nat.eq_of_beq_eq_true hsz
 have hti : ∃ i, τ.ti e = some i := by
  cases hc : τ.ti e with
  | none => have := sz_pos r; simp [Tys.sz, hc] at hsz'; omega
  | some i => exact ⟨i, rfl⟩
 obtain ⟨i, hi⟩ := hti
 obtain ⟨us, hrow, _⟩ := hO.row
 rcases hrow.2 with ⟨_, h2⟩ | ⟨g, cap, cur, hv, _⟩
 · omega
 · refine ⟨g, cap, hv, ?_⟩
   rw [hv, index_run hτ htd hi h0 h1, hsz', Addr.add_lit]
   simp
theorem indexAddr_ok (hτ : TysOk P τ) (hd : Den τ w0 E ⟨fr, stk, bx, rw', dep⟩ (a.tmps :: aS) w) (T : TypeId) (x i : Operand) (ho : o.op = .indexAddr T x i) :
  (evIndexAddr τ ⟨fr, stk, bx, rw', dep⟩ T (St.get ⟨fr, stk, bx, rw', dep⟩ x) (St.get ⟨fr, stk, bx, rw', dep⟩ i)).good (Yld P o a w E rw') := by
 have hx := hd.get x
 have hi := hd.get i
 refine RV.ok_of (c := Instr.indexAt T (a.eval x) (a.eval i)) (fun z hz => by simp only [execOp, ho, Sem.run_bind, hz]; rfl) ?_
 unfold evIndexAddr
 split
 rotate_left
 · rename_i n e k j htd hj
   rw [hj] at hi
   obtain hi : a.eval i = .int k j := hi
   rw [hi]
   split
   · rename_i k0 i0 off hxk
     rw [hxk] at hx
     simp only [vd3, vd2, vd1, vd0] at hx
     split
     · rename_i hi0 hsz hn1
       obtain rfl := of_decide_eq_true hi0
       split
       · rename_i r hk
         rw [hk] at hx
         obtain ⟨g, m, c, h1, _, h2, hx⟩ := hx
         split
         · rintro ⟨b1, b2, b3⟩
           refine ⟨.pointer (some ⟨g, j.toNat, none⟩), ?_, ?_⟩
           · rw [hx]
             obtain ⟨i', hi'⟩ := hτ.arrElem htd
             have hsz' : τ.sz e = 1 := Nat.eq_of_beq_eq_true hsz
             have hn2 : 1 < n := Nat.lt_of_succ_le (Nat.le_of_ble_eq_true hn1)
             have : ∀ w, (sizeOf e).run P w = .ok 1 w := fun w => by have := hτ.szOf hi' w; rwa [hsz'] at this
             have hnot : ¬ (n ≤ 1) := by omega
             simp [Instr.indexAt, asIntOf, hτ.arr htd, Sem.run_bind, run_underlying (hτ.arr htd), Instr.sureAddr, this, b1, b2, hnot, Addr.add_lit, Rw.sz, Rw.kd, kdSz]
           · simp only [vd3, vd2, vd1, vd0]
             rw [hk]
             exact ⟨g, m, c, h1, b1, by simp only [Rw.len]; omega, by simp [Rw.sz, Rw.kd, kdSz]⟩
         · trivial
       · trivial
     · trivial
   · rename_i k0 off hxk
     rw [hxk] at hx
     split
     · rename_i i' hn1 hi'
       rintro ⟨b1, b2⟩
       obtain hx : a.eval x = .pointer (some ⟨E.bs k0, off, none⟩) := hx
       refine ⟨.pointer (some ⟨E.bs k0, off + j.toNat * τ.sz e, none⟩), ?_, rfl⟩
       rw [hx]
       have hn2 : 1 < n := Nat.lt_of_succ_le (Nat.le_of_ble_eq_true hn1)
       have : ∀ w, (sizeOf e).run P w = .ok (τ.sz e) w := fun w => hτ.szOf hi' w
       have hnot : ¬ (n ≤ 1) := by omega
       simp [Instr.indexAt, asIntOf, hτ.arr htd, Sem.run_bind, run_underlying (hτ.arr htd), Instr.sureAddr, this, b1, b2, hnot, Addr.add_lit]
     · trivial
   · trivial
 · trivial
 rename_i e k j htd hj
 rw [hj] at hi
 obtain hi : a.eval i = .int k j := hi
 rw [hi]
 split
 · rename_i t r hxr
   rw [hxr] at hx
   split
   · rename_i hsz
     rw [Rw.lenK_eq]
     intro hb
     exact shared_index hτ htd hsz hx hb.1 hb.2
   · trivial
 · rename_i k0 hxk
   rw [hxk] at hx
   simp only [vd3, vd2, vd1, vd0] at hx
   split
   · rename_i r hk
     rw [hk] at hx
     obtain hx : a.eval x = E.hs k0 := hx
     split
     · rename_i hsz
       rw [Rw.lenK_eq]
       intro hb
       obtain ⟨g, c, h1, h2⟩ := own_index (P := P) hτ htd (hd.own k0 _ _ r hk rfl) hsz (k := k) hb.1 hb.2
       refine ⟨_, by rw [hx]; exact h2, ?_⟩
       simp only [vd3, vd2, vd1, vd0]
       rw [hk]
       exact ⟨g, _, c, h1, hb.1, hb.2, rfl⟩
     · trivial
   · rename_i lo r hk
     rw [hk] at hx
     obtain hx : a.eval x = E.hs k0 := hx
     split
     · rename_i hsz
       rw [Rw.lenK_eq]
       intro hb
       obtain ⟨g, c, h1, h2⟩ := own_index (P := P) hτ htd (hd.own k0 _ _ r hk rfl) hsz (k := k) hb.1 hb.2
       refine ⟨_, by rw [hx]; exact h2, ?_⟩
       simp only [vd3, vd2, vd1, vd0]
       rw [hk]
       exact ⟨g, _, c, h1, hb.1, hb.2, rfl⟩
     · trivial
   · rename_i t r hk
     rw [hk] at hx
     split
     · rename_i hsz
       rw [Rw.lenK_eq]
       intro hb
       exact shared_index hτ htd hsz hx hb.1 hb.2
     · trivial
   · trivial
 · trivial
theorem indexAddr_good (hτ : TysOk P τ) (hd : Den τ w0 E ⟨fr, stk, bx, rw', dep⟩ (a.tmps :: aS) w) (hdst : ∀ t, o.dst = some t → t < a.tmps.size) (T : TypeId) (x i : Operand) (ho : o.op = .indexAddr T x i) :
  ((evIndexAddr τ ⟨fr, stk, bx, rw', dep⟩ T (St.get ⟨fr, stk, bx, rw', dep⟩ x) (St.get ⟨fr, stk, bx, rw', dep⟩ i)).to o.dst ⟨fr, stk, bx, rw', dep⟩).good (OpGood P τ w0 E aS o a w) :=
 RV.to_good' hd hdst (indexAddr_ok hτ hd T x i ho)
theorem index_ok (hτ : TysOk P τ) (hd : Den τ w0 E ⟨fr, stk, bx, rw', dep⟩ (a.tmps :: aS) w) (T : TypeId) (x i : Operand) (ho : o.op = .index T x i) :
  (evIndex τ T (St.get ⟨fr, stk, bx, rw', dep⟩ x) (St.get ⟨fr, stk, bx, rw', dep⟩ i)).good (Yld P o a w E rw') := by
 have hx := hd.get x
 have hi := hd.get i
 refine RV.ok_of (c := Instr.index T (a.eval x) (a.eval i)) (fun z hz => by simp only [execOp, ho, Sem.run_bind, hz]; rfl) ?_
 unfold evIndex
 split
 rotate_left
 · trivial
 rename_i b k j htd hs hj
 rw [hj] at hi
 rw [hs] at hx
 obtain hi : a.eval i = .int k j := hi
 obtain hx : a.eval x = .string b := hx
 intro hb
 obtain ⟨d, hu, hdd⟩ := hτ.td htd (by simp)
 obtain rfl : d = _ := hdd
 have hlt : j.toNat < b.size := by omega
 refine ⟨.int .u8 (byteAt b j.toNat), ?_, rfl⟩
 rw [hx, hi]
 simp [Instr.index, run_underlying hu, asIntOf, hb.1, byteAt_def, hlt]
theorem index_good (hτ : TysOk P τ) (hd : Den τ w0 E ⟨fr, stk, bx, rw', dep⟩ (a.tmps :: aS) w) (hdst : ∀ t, o.dst = some t → t < a.tmps.size) (T : TypeId) (x i : Operand) (ho : o.op = .index T x i) :
  ((evIndex τ T (St.get ⟨fr, stk, bx, rw', dep⟩ x) (St.get ⟨fr, stk, bx, rw', dep⟩ i)).to o.dst ⟨fr, stk, bx, rw', dep⟩).good (OpGood P τ w0 E aS o a w) :=
 RV.to_good' hd hdst (index_ok hτ hd T x i ho)
theorem extract_ok (hd : Den τ w0 E ⟨fr, stk, bx, rw', dep⟩ (a.tmps :: aS) w) (x : Operand) (j : Nat) (ho : o.op = .extract x j) :
  (evExtract (St.get ⟨fr, stk, bx, rw', dep⟩ x) j).good (Yld P o a w E rw') := by
 have hx := hd.get x
 refine RV.ok_of (c := Instr.extract (a.eval x) j) (fun z hz => by simp only [execOp, ho, Sem.run_bind, hz]; rfl) ?_
 unfold evExtract
 split
 rotate_left
 · trivial
 rename_i vs hv
 rw [hv] at hx
 obtain ⟨us, hxv, hl⟩ := hx
 split
 rotate_left
 · trivial
 rename_i v hj
 rw [nth_eq] at hj
 obtain ⟨u, hu, hp⟩ := hl.2 j v hj
 refine ⟨u, by rw [hxv]; simp [Instr.extract, hu], ?_⟩
 cases v <;> first | exact hp | exact hp.elim
theorem extract_good (hd : Den τ w0 E ⟨fr, stk, bx, rw', dep⟩ (a.tmps :: aS) w) (hdst : ∀ t, o.dst = some t → t < a.tmps.size) (x : Operand) (j : Nat) (ho : o.op = .extract x j) :
  ((evExtract (St.get ⟨fr, stk, bx, rw', dep⟩ x) j).to o.dst ⟨fr, stk, bx, rw', dep⟩).good (OpGood P τ w0 E aS o a w) :=
 RV.to_good' hd hdst (extract_ok hd x j ho)
end
end Go.Proofs.YtjjpakdlkjaigaaGreat

/- A symbolic executor for loaded Go code: each step is the machine's: conversions, functions, make, slices, append. -/
namespace Go.Proofs.YtjjpakdlkjaigaaGreat
open Go.RowKit
section
variable {P : Program} {τ : Tys} {w0 : World} {E : Env} {aS : List (Array Value)} {a : Act} {w : World}
variable {s : St} {bs : List (Array Value)} {o : Oper}
variable {fr : List (Nat × SV)} {stk : List (List (Nat × SV))} {bx : List (Nat × (TypeId × List SV))} {rw' : List (Nat × Ent)} {dep : Nat}
theorem bytesOf_eq (xs : List Int) : (⟨(bytesOf xs).toArray⟩ : ByteArray) = strOfNums xs := by
 have : bytesOf xs = xs.map fun n => UInt8.ofNat n.toNat := by
  induction xs with
  | nil => rfl
  | cons x xs ih => simp [bytesOf, ih]
 rw [this]; rfl
theorem toStr_run {F : Nat → Prop} {xs : List Int} {v : Value} {src dst e : TypeId} (hs : P.underlying src = some (.slice e)) (he : P.underlying e = some (.int .u8)) (hd : P.underlying dst = some .string) (h : RowDen w F (.bytes xs) v) :
  (convert src dst v).run P w = .ok (.string ⟨(bytesOf xs).toArray⟩) w := by
 rw [bytesOf_eq]
 obtain ⟨h0, A, c, rfl, hn, h⟩ := h
 simp only [Rw.len] at hn h
 by_cases hp : 0 < xs.length
 · obtain ⟨ad, rfl, hsp, hF, hc⟩ := h hp
   obtain ⟨b, off, sp⟩ := ad
   simp at hsp
   subst hsp
   refine run_convert_bytes_arg w src e hs he b off _ c xs rfl (fun i hi => ?_) dst hd
   obtain ⟨u, hu, hcd⟩ := hc i 0 _ hi rfl
   obtain rfl : u = _ := hcd
   rw [Addr.add_lit] at hu
   simpa [Rw.sz, Rw.kd, kdSz] using hu
 · have : xs = [] := List.eq_nil_of_length_eq_zero (by omega)
   subst this
   cases A with
   | none => exact run_convert_bytes_nil w src e hs he 0 c dst hd
   | some ad =>
     rw [show (Rw.bytes []).len = 0 from rfl]
     have hr := run_convert_bytes_arg w src e hs he ad.block ad.off 0 c [] rfl (fun i hi => by omega) dst hd
     rw [run_convert_bytes_string w src dst e _ 0 c hs he hd, run_bytesToString w ad 0 c [] (by simp [loadCells, loadCellsFrom])]
     rfl
theorem own_read (hd : Den τ w0 E s bs w) {k : Nat} {e : Ent} (hk : lk s.rows k = some e) {v : Value} (hv : vd3 E s.rows w (.own k) v) : RowDen w (fun _ => True) e.row.2 v := by
 simp only [vd3, vd2, vd1, vd0] at hv
 rw [hk] at hv
 cases e with
 | own r => obtain rfl : v = _ := hv; exact (hd.own k _ _ r hk rfl).read (fun _ _ => trivial) fun _ _ _ _ => trivial
 | part lo r => obtain rfl : v = _ := hv; exact (hd.own k _ _ r hk rfl).read (fun _ _ => trivial) fun _ _ _ _ => trivial
 | shared t r => exact RowDen.mono hv fun _ _ _ => ⟨rfl, trivial⟩
theorem conv_ok (hτ : TysOk P τ) (hd : Den τ w0 E ⟨fr, stk, bx, rw', dep⟩ (a.tmps :: aS) w) (src dst : TypeId) (x : Operand) (ho : o.op = .convert src dst x) :
  (evConv τ ⟨fr, stk, bx, rw', dep⟩ src dst (St.get ⟨fr, stk, bx, rw', dep⟩ x)).good (Yld P o a w E rw') := by
 have hx := hd.get x
 refine RV.ok_of (c := convert src dst (a.eval x)) (fun z hz => by simp only [execOp, ho, Sem.run_bind, hz]; rfl) ?_
 unfold evConv
 split
 · rename_i k' hdd
   split
   · rename_i k n k1 hn hsd
     rw [hn] at hx
     obtain hx : a.eval x = .int k n := hx
     obtain ⟨d, hu, hd1⟩ := hτ.td hdd (by simp)
     obtain rfl : d = _ := hd1
     obtain ⟨d2, hu2, hd2⟩ := hτ.td hsd (by simp)
     obtain rfl : d2 = _ := hd2
     rw [hx]
     exact ⟨.int k' (k'.wrap n), by simp [convert, run_underlying hu, run_underlying hu2, Conv.intToInt], rfl⟩
   · trivial
 · rename_i hdd
   obtain ⟨d, hu, hd1⟩ := hτ.td hdd (by simp)
   obtain rfl : d = _ := hd1
   split
   · rename_i hsd
     obtain ⟨d2, hu2, hd2⟩ := hτ.td hsd (by simp)
     obtain rfl : d2 = _ := hd2
     split
     · rename_i b hb
       rw [hb] at hx
       obtain hx : a.eval x = .string b := hx
       rw [hx]
       exact ⟨.string b, by simp [convert, run_underlying hu, run_underlying hu2], rfl⟩
     · trivial
   · rename_i e hsd
     split
     · rename_i hed
       obtain ⟨d3, hu3, hd3⟩ := hτ.td hed (by simp)
       obtain rfl : d3 = _ := hd3
       split
       · rename_i k hxk
         rw [hxk] at hx
         split
         · rename_i e' hk
           split
           · rename_i t xs hrow
             have := own_read hd hk hx
             rw [hrow] at this
             exact ⟨_, toStr_run (hτ.slice hsd) hu3 hu this, rfl⟩
           · trivial
         · trivial
       · rename_i t xs hxr
         rw [hxr] at hx
         exact ⟨_, toStr_run (hτ.slice hsd) hu3 hu hx, rfl⟩
       · trivial
     · trivial
   · trivial
 · trivial
theorem conv_good (hτ : TysOk P τ) (hd : Den τ w0 E ⟨fr, stk, bx, rw', dep⟩ (a.tmps :: aS) w) (hdst : ∀ t, o.dst = some t → t < a.tmps.size) (src dst : TypeId) (x : Operand) (ho : o.op = .convert src dst x) :
  ((evConv τ ⟨fr, stk, bx, rw', dep⟩ src dst (St.get ⟨fr, stk, bx, rw', dep⟩ x)).to o.dst ⟨fr, stk, bx, rw', dep⟩).good (OpGood P τ w0 E aS o a w) :=
 RV.to_good' hd hdst (conv_ok hτ hd src dst x ho)
theorem getN_vd (hd : Den τ w0 E s (a.tmps :: aS) w) : ∀ (xs : List Operand) (Ts : List TypeId), L0 (vd3 E s.rows w) (getN τ s xs Ts) (xs.map a.eval)
 | [], _ => by simpa [getN] using L0.nil
 | x :: xs, T :: Ts => .cons (hd.getT T x) (getN_vd hd xs Ts)
 | x :: xs, [] => .cons (hd.get x) (getN_vd hd xs [])
theorem rawN_vd (hd : Den τ w0 E s (a.tmps :: aS) w) : ∀ (xs : List Operand) (Ts : List TypeId), L0 (vd3 E s.rows w) (rawN τ s xs Ts) (xs.map a.eval)
 | [], _ => by simpa [rawN] using L0.nil
 | x :: xs, T :: Ts => .cons (hd.rawT T x) (rawN_vd hd xs Ts)
 | x :: xs, [] => .cons (hd.raw x) (rawN_vd hd xs [])
theorem allB_mem {p : SV → Bool} {l : List SV} (h : allB p l = true) {x : SV} (hx : x ∈ l) : p x = true := by
 induction l with
 | nil => simp at hx
 | cons y l ih =>
   simp only [allB] at h
   split at h
   · rcases List.mem_cons.1 hx with rfl | hx
     · assumption
     · exact ih h hx
   · simp at h
theorem capOk_vd {x : SV} {u : Value} (h : vd3 E rw' w x u) (ho : capOk x = true) : vd0 E rw' w x u := by
 cases x <;> first | exact h | (simp [capOk] at ho; done)
theorem goOk_mem {l : List SV} (h : firstOk.go l = true) {x : SV} (hx : x ∈ l) : capOk x = true := by
 induction l with
 | nil => simp at hx
 | cons y l ih =>
   simp only [firstOk.go] at h
   split at h
   · rcases List.mem_cons.1 hx with rfl | hx
     · assumption
     · exact ih h hx
   · simp at h
theorem firstOk_vd {x : SV} {u : Value} (h : vd3 E rw' w x u) (ho : firstOk x = true) : vdf E rw' w x u := by
 cases x with
 | agg cs =>
   obtain ⟨us, hv, hl⟩ := h
   exact ⟨us, hv, hl.mono fun y v hy hp => capOk_vd (vd_of_vd1 hp) (goOk_mem ho hy)⟩
 | tup vs => simp [firstOk, capOk] at ho
 | clo f b c => simp [firstOk, capOk] at ho
 | _ => exact h
theorem func_ok (hd : Den τ w0 E ⟨fr, stk, bx, rw', dep⟩ (a.tmps :: aS) w) (fn : Fn) (b c : Array Operand) (ho : o.op = .makeFunc fn b c) :
  (evFunc fn (getN τ ⟨fr, stk, bx, rw', dep⟩ b.toList []) (getN τ ⟨fr, stk, bx, rw', dep⟩ c.toList [])).good (Yld P o a w E rw') := by
 refine RV.ok_of (c := Instr.makeFunc fn (b.map a.eval) (c.map a.eval)) (fun z hz => by simp only [execOp, ho, Sem.run_bind, hz]; rfl) ?_
 unfold evFunc
 split
 rotate_left
 · trivial
 rename_i f
 split
 rotate_left
 · trivial
 rename_i h1 h2
 simp only [forceL_eq]
 refine ⟨_, rfl, b.toList.map a.eval, c.toList.map a.eval, ?_, (getN_vd hd b.toList []).mono fun x u hx hp => firstOk_vd hp (allB_mem h1 hx), (getN_vd hd c.toList []).mono fun x u hx hp => capOk_vd hp (allB_mem h2 hx)⟩
 congr 1 <;> apply Array.ext' <;> simp
theorem func_good (hd : Den τ w0 E ⟨fr, stk, bx, rw', dep⟩ (a.tmps :: aS) w) (hdst : ∀ t, o.dst = some t → t < a.tmps.size) (fn : Fn) (b c : Array Operand) (ho : o.op = .makeFunc fn b c) :
  ((evFunc fn (getN τ ⟨fr, stk, bx, rw', dep⟩ b.toList []) (getN τ ⟨fr, stk, bx, rw', dep⟩ c.toList [])).to o.dst ⟨fr, stk, bx, rw', dep⟩).good (OpGood P τ w0 E aS o a w) :=
 RV.to_good' hd hdst (func_ok hd fn b c ho)
theorem lenOf_ok (hd : Den τ w0 E s bs w) {x : SV} {v : Value} {n : Nat} (hx : vd3 E s.rows w x v) (h : lenOf s.rows x = some n) : (∃ b, v = .string b ∧ n = b.size ∧ x = .str b) ∨ ∃ A c, v = .slice A n c ∧ n ≤ c ∧ ∀ b, x ≠ .str b := by
 unfold lenOf at h
 simp only [Rw.lenK_eq] at h
 split at h
 · injection h with h
   subst h
   exact .inl ⟨_, hx, rfl, rfl⟩
 · injection h with h
   subst h
   obtain ⟨_, A, c, hv, hn, _⟩ := hx
   exact .inr ⟨A, c, hv, hn, by simp⟩
 · injection h with h
   subst h
   obtain ⟨hv, _⟩ := hx
   exact .inr ⟨none, 0, hv, by omega, by simp⟩
 · injection h with h
   subst h
   obtain ⟨A, c, hv, hn, _, A', c', hv', hc, _⟩ := hx
   injection hv' with _ _ hv'
   subst hv'
   exact .inr ⟨A, c, hv, by omega, by simp⟩
 · split at h
   · rename_i k e hk
     injection h with h
     subst h
     obtain ⟨_, A, c, hv, hn, _⟩ := own_read hd hk hx
     exact .inr ⟨A, c, hv, hn, by simp⟩
   · simp at h
 · simp at h
theorem len_ok (hτ : TysOk P τ) (hd : Den τ w0 E ⟨fr, stk, bx, rw', dep⟩ (a.tmps :: aS) w) (c : Call) (x : Operand) (T : TypeId) (ho : o.op = .call c) (hb : c.callee = .builtin .len) (hx : c.args.toList = [x]) (hT : c.argTypes.toList = [T])
  {n : Nat} (hn : lenOf rw' (St.get ⟨fr, stk, bx, rw', dep⟩ x) = some n) (htd : (τ.td T = .str ∧ ∃ b, St.get ⟨fr, stk, bx, rw', dep⟩ x = .str b) ∨ ((∃ e, τ.td T = .slice e) ∧ ∀ b, St.get ⟨fr, stk, bx, rw', dep⟩ x ≠ .str b)) :
  Yld P o a w E rw' (.int .i64 n) := by
 have hargs : c.args = #[x] := by rw [← Array.toArray_toList (xs := c.args), hx]
 have hts : c.argTypes = #[T] := by rw [← Array.toArray_toList (xs := c.argTypes), hT]
 refine ⟨.int .i64 n, ?_, rfl⟩
 have hl := lenOf_ok hd (hd.get x) hn
 simp only [execOp, ho, resolve, hb, hargs, hts, invoke, builtin, Sem.run_bind, Sem.run_pure, Result.andThen_ok]
 rcases hl with ⟨b, hv, hnb, hxb⟩ | ⟨A, c', hv, _, hne⟩
 · rcases htd with ⟨h1, _⟩ | ⟨_, h2⟩
   · obtain ⟨d, hu, hd1⟩ := hτ.td h1 (by simp)
     obtain rfl : d = _ := hd1
     simp [hv, Builtin.len_, run_underlying hu, goInt, hnb]
   · exact absurd hxb (h2 b)
 · rcases htd with ⟨_, b, h2⟩ | ⟨⟨e, h1⟩, _⟩
   · exact absurd h2 (hne b)
   · have hu := hτ.slice h1
     simp [hv, Builtin.len_, run_underlying hu, goInt]
theorem len_good (hτ : TysOk P τ) (hd : Den τ w0 E ⟨fr, stk, bx, rw', dep⟩ (a.tmps :: aS) w) (hdst : ∀ t, o.dst = some t → t < a.tmps.size) (c : Call) (x : Operand) (T : TypeId) (ho : o.op = .call c) (hb : c.callee = .builtin .len) (hx : c.args.toList = [x]) (hT : c.argTypes.toList = [T])
  {n : Nat} (hn : lenOf rw' (St.get ⟨fr, stk, bx, rw', dep⟩ x) = some n) (htd : (τ.td T = .str ∧ ∃ b, St.get ⟨fr, stk, bx, rw', dep⟩ x = .str b) ∨ ((∃ e, τ.td T = .slice e) ∧ ∀ b, St.get ⟨fr, stk, bx, rw', dep⟩ x ≠ .str b)) :
  OpGood P τ w0 E aS o a w (putv o.dst (.int .i64 n) ⟨fr, stk, bx, rw', dep⟩) := by
 obtain ⟨z, hz, hv⟩ := len_ok hτ hd c x T ho hb hx hT hn htd
 exact opGood_value hz (hd.put hv hdst) rfl rfl
theorem min_ok (hd : Den τ w0 E ⟨fr, stk, bx, rw', dep⟩ (a.tmps :: aS) w) (c : Call) (x y : Operand) (op : Builtin) (hop : op = .min ∨ op = .max) (ho : o.op = .call c) (hb : c.callee = .builtin op) (hx : c.args.toList = [x, y]) :
  (evMin op (St.get ⟨fr, stk, bx, rw', dep⟩ x) (St.get ⟨fr, stk, bx, rw', dep⟩ y)).good (Yld P o a w E rw') := by
 have hargs : c.args = #[x, y] := by rw [← Array.toArray_toList (xs := c.args), hx]
 have h1 := hd.get x
 have h2 := hd.get y
 unfold evMin
 split
 · rename_i k p k' q hp hq
   rw [hp] at h1
   rw [hq] at h2
   obtain h1 : a.eval x = _ := h1
   obtain h2 : a.eval y = _ := h2
   refine ⟨_, ?_, rfl⟩
   simp only [execOp, ho, resolve, hb, hargs, invoke, builtin, Sem.run_bind, Sem.run_pure, Result.andThen_ok]
   simp [h1, h2, run_min_int2]
 · rename_i k p k' q hp hq
   rw [hp] at h1
   rw [hq] at h2
   obtain h1 : a.eval x = _ := h1
   obtain h2 : a.eval y = _ := h2
   refine ⟨_, ?_, rfl⟩
   simp only [execOp, ho, resolve, hb, hargs, invoke, builtin, Sem.run_bind, Sem.run_pure, Result.andThen_ok]
   simp [h1, h2, run_max_int2]
 · trivial
theorem min_good (hd : Den τ w0 E ⟨fr, stk, bx, rw', dep⟩ (a.tmps :: aS) w) (hdst : ∀ t, o.dst = some t → t < a.tmps.size) (c : Call) (x y : Operand) (op : Builtin) (hop : op = .min ∨ op = .max) (ho : o.op = .call c) (hb : c.callee = .builtin op) (hx : c.args.toList = [x, y]) :
  ((evMin op (St.get ⟨fr, stk, bx, rw', dep⟩ x) (St.get ⟨fr, stk, bx, rw', dep⟩ y)).to o.dst ⟨fr, stk, bx, rw', dep⟩).good (OpGood P τ w0 E aS o a w) :=
 RV.to_good' hd hdst (min_ok hd c x y op hop ho hb hx)
end
end Go.Proofs.YtjjpakdlkjaigaaGreat

/- A symbolic executor for loaded Go code: each step is the machine's: make, slices, append. -/
namespace Go.Proofs.YtjjpakdlkjaigaaGreat
open Go.RowKit
set_option maxRecDepth 20000
section
variable {P : Program} {τ : Tys} {w0 : World} {E : Env} {aS : List (Array Value)} {a : Act} {w : World}
variable {s : St} {bs : List (Array Value)} {o : Oper}
variable {fr : List (Nat × SV)} {stk : List (List (Nat × SV))} {bx : List (Nat × (TypeId × List SV))} {rw' : List (Nat × Ent)} {dep : Nat}
theorem bounds_run (b : Bool) (n cap : Nat) (lo hi : Option Value) (l h : Int) (hl : (lo = none ∧ l = 0) ∨ ∃ k, lo = some (.int k l)) (hh : (hi = none ∧ h = n) ∨ ∃ k, hi = some (.int k h)) (h0 : 0 ≤ l) (h1 : l ≤ h) (h2 : h ≤ n) (h3 : n ≤ cap) :
  (Instr.sliceBounds b n cap lo hi none).run P w = .ok (l.toNat, h.toNat, cap) w := by
 have ehn : (h.toNat : Int) = h := Int.toNat_of_nonneg (by omega)
 have h4 : 0 ≤ h := by omega
 have h5 : h ≤ cap := by omega
 rcases hl with ⟨rfl, rfl⟩ | ⟨k, rfl⟩ <;> rcases hh with ⟨rfl, rfl⟩ | ⟨k', rfl⟩ <;>
  simp [Instr.sliceBounds, Instr.sliceBound, asIntOf, h0, ehn, h1, h4, h5]
theorem bound_ok (hd : Den τ w0 E s (a.tmps :: aS) w) {d : Int} {x : Option Operand} {n : Int} (h : bound τ s d x = some n) : (x.map a.eval = none ∧ n = d) ∨ ∃ k, x.map a.eval = some (.int k n) := by
 unfold bound at h
 split at h
 · injection h with h; exact .inl ⟨rfl, h.symm⟩
 · rename_i y
   split at h
   · rename_i k m hm
     injection h with h
     subst h
     have := hd.get y
     rw [hm] at this
     exact .inr ⟨k, congrArg some this⟩
   · simp at h
theorem sub_den {F : Nat → Prop} {r : Rw} {v : Value} (hv : RowDen w F r v) (l h : Nat) (hl : l ≤ h) (hh : h ≤ r.len) : ∃ A c, v = .slice A r.len c ∧ r.len ≤ c ∧
  RowDen w F (r.sub l h) (.slice (if c = l then A else A.map (·.add (l * r.sz))) (h - l) (c - l)) := by
 obtain ⟨hkd, hlen, hcell⟩ := sub_cell l h r hl hh
 obtain ⟨h0, A, c, rfl, hn, hc⟩ := hv
 have hsz : (r.sub l h).sz = r.sz := Rw.sz_of_kd hkd
 refine ⟨A, c, rfl, hn, ?_, _, c - l, by rw [hlen], by rw [hlen]; omega, fun hp => ?_⟩
 · have : (r.sub l h).bts = r.bts := by unfold Rw.bts; rw [hkd]
   rw [this, hlen]
   exact Nat.le_trans (Nat.mul_le_mul_right _ (by omega)) h0
 · rw [hlen] at hp
   obtain ⟨ad, rfl, hs, hF, hcd⟩ := hc (by omega)
   have hne : c ≠ l := by omega
   have hb : (ad.add (l * r.sz)).block = ad.block := by unfold Addr.add; split <;> rfl
   refine ⟨ad.add (l * r.sz), by simp [hne], ?_, by rw [hb]; exact hF, fun i j x hi hx => ?_⟩
   · unfold Addr.add; split <;> simp [hs]
   · rw [hlen] at hi
     rw [hcell _ i hi] at hx
     obtain ⟨u, hu, hd⟩ := hcd (l + i) j x (by omega) hx
     refine ⟨u, ?_, hd⟩
     rw [add_add hs, hsz]
     rw [show l * r.sz + (i * r.sz + j) = (l + i) * r.sz + j by rw [Nat.add_mul]; omega]
     exact hu
theorem slice_run (hτ : TysOk P τ) {T e : TypeId} (htd : τ.td T = .slice e) {sz : Nat} (hsz : (sizeOf e).run P w = .ok sz w) {A : Option Addr} {n c : Nat} {lo hi : Option Value} {l h : Int}
  (hl : (lo = none ∧ l = 0) ∨ ∃ k, lo = some (.int k l)) (hh : (hi = none ∧ h = n) ∨ ∃ k, hi = some (.int k h)) (h0 : 0 ≤ l) (h1 : l ≤ h) (h2 : h ≤ n) (h3 : n ≤ c) :
  (Instr.sliceAt T (.slice A n c) lo hi none).run P w = .ok (.slice (if c = l.toNat then A else A.map (·.add (l.toNat * sz))) (h.toNat - l.toNat) (c - l.toNat)) w := by
 have hs := hτ.slice htd
 have hb := bounds_run (P := P) (w := w) true n c lo hi l h hl hh h0 h1 h2 h3
 simp [Instr.sliceAt, Instr.slice, run_underlying hs, hb, hsz]
theorem size_of_beq (hτ : TysOk P τ) {e : TypeId} {r : Rw} (h : Nat.beq (τ.sz e) r.sz = true) : (sizeOf e).run P w = .ok r.sz w := by
 have hsz' : τ.sz e = r.sz := Nat.eq_of_beq_eq_true h
 cases hc : τ.ti e with
 | none => have := sz_pos r; simp [Tys.sz, hc] at hsz'; omega
 | some i => rw [← hsz']; exact hτ.szOf hc w
theorem slice_run2 (hτ : TysOk P τ) {T e : TypeId} (htd : τ.td T = .slice e) {sz : Nat} (hsz : (sizeOf e).run P w = .ok sz w) {A : Option Addr} {n c : Nat} {lo hi : Option Value} {l h : Int}
  (hl : (lo = none ∧ l = 0) ∨ ∃ k, lo = some (.int k l)) (hh : (hi = none ∧ h = n) ∨ ∃ k, hi = some (.int k h)) (h0 : 0 ≤ l) (h1 : l ≤ h) (h2 : h ≤ c) :
  (Instr.sliceAt T (.slice A n c) lo hi none).run P w = .ok (.slice (if c = l.toNat then A else A.map (·.add (l.toNat * sz))) (h.toNat - l.toNat) (c - l.toNat)) w := by
 have hs := hτ.slice htd
 have hb : (Instr.sliceBounds true n c lo hi none).run P w = .ok (l.toNat, h.toNat, c) w := by
  have ehn : (h.toNat : Int) = h := Int.toNat_of_nonneg (by omega)
  have h4 : 0 ≤ h := by omega
  have h5 : h ≤ c := by omega
  rcases hl with ⟨rfl, rfl⟩ | ⟨k, rfl⟩ <;> rcases hh with ⟨rfl, rfl⟩ | ⟨k', rfl⟩ <;>
   simp [Instr.sliceBounds, Instr.sliceBound, asIntOf, h0, ehn, h1, h4, h5, h2]
 simp [Instr.sliceAt, Instr.slice, run_underlying hs, hb, hsz]
theorem pre_len {R : List (Nat × Ent)} {k n : Nat} {t : Tag} {r : Rw} (hn : lenOf R (.own k) = some n) (hR : lk (demote1 R k) k = some (.shared t r)) : n = r.len := by
 simp only [lenOf] at hn
 cases hk0 : lk R k with
 | none => rw [hk0] at hn; simp at hn
 | some e0 =>
   rw [hk0] at hn
   simp only [Rw.lenK_eq] at hn
   injection hn with hn
   simp only [demote1, hk0, lk_upd, if_true] at hR
   injection hR with hR
   injection hR with _ hR
   rw [← hR]
   exact hn.symm
theorem slice_good (hτ : TysOk P τ) (hd : Den τ w0 E ⟨fr, stk, bx, rw', dep⟩ (a.tmps :: aS) w) (hdst : ∀ t, o.dst = some t → t < a.tmps.size) (T : TypeId) (x : Operand) (lo hi mx : Option Operand) (ho : o.op = .slice T x lo hi mx) :
  (stepSlice τ T x lo hi mx o.dst ⟨fr, stk, bx, rw', dep⟩).good (OpGood P τ w0 E aS o a w) := by
 unfold stepSlice
 split
 · trivial
 simp only [SV.force_eq]
 have hx := hd.raw x
 split
 rotate_left
 · trivial
 rename_i n hn
 split
 rotate_left
 · trivial
 rename_i l h hl hh
 have hlo := bound_ok hd hl
 have hhi := bound_ok hd hh
 split
 · -- a string
   rename_i b htd hb
   rw [hb] at hx hn
   obtain hx : a.eval x = .string b := hx
   injection hn with hn
   intro hp
   obtain ⟨d, hu, hd1⟩ := hτ.td htd (by simp)
   obtain rfl : d = _ := hd1
   have hbr := bounds_run (P := P) (w := w) false b.size b.size (lo.map a.eval) (hi.map a.eval) l h hlo (by rw [hn]; exact hhi) hp.1 hp.2.1 (by rw [hn]; exact hp.2.2) (Nat.le_refl _)
   refine opGood_value (v := .string (b.extract l.toNat h.toNat)) (w' := w) ?_ (hd.put rfl hdst) rfl rfl
   simp only [execOp, ho, Option.map_none, hx, Instr.sliceAt, Instr.slice, Sem.run_bind, run_underlying hu, Result.andThen_ok, Option.isSome_none, Bool.false_eq_true, if_false, hbr, Sem.run_pure]
 · -- a row
   rename_i e t r htd hr
   rw [hr] at hx hn
   simp only [lenOf, Rw.lenK_eq] at hn
   injection hn with hn
   subst hn
   split
   rotate_left
   · trivial
   rename_i hsz
   intro hp
   obtain ⟨A, c, hv, hc, hden⟩ := sub_den (show RowDen w (E.F w t) r (a.eval x) from hx) l.toNat h.toNat (by omega) (by omega)
   refine opGood_value (w' := w) ?_ (hd.put (show vd3 E rw' w (.row t (r.sub l.toNat h.toNat)) _ from hden) hdst) rfl rfl
   simp only [execOp, ho, Option.map_none, hv, Sem.run_bind, slice_run hτ htd (size_of_beq hτ hsz) hlo hhi hp.1 hp.2.1 hp.2.2 hc, Result.andThen_ok]
   rfl
 · -- a row with room behind it
   rename_i e t r m htd hr
   rw [hr] at hx hn
   simp only [lenOf] at hn
   injection hn with hn
   subst hn
   obtain ⟨A, c, hv, hmr, hx⟩ := hx
   split
   rotate_left
   · trivial
   rename_i hsz
   intro hp
   obtain ⟨A', c', hv', hc', hden⟩ := sub_den hx l.toNat h.toNat (by omega) (by omega)
   injection hv' with h1 h2 h3
   subst h1
   subst h3
   have hhc : h ≤ (c : Int) := by omega
   refine opGood_value (w' := w) ?_ (hd.put (show vd3 E rw' w (.row t (r.sub l.toNat h.toNat)) _ from hden) hdst) rfl rfl
   simp only [execOp, ho, Option.map_none, hv, Sem.run_bind, slice_run2 hτ htd (size_of_beq hτ hsz) hlo hhi hp.1 hp.2.1 hhc, Result.andThen_ok]
   rfl
 · -- an own row
   rename_i e k htd hk
   rw [hk] at hx hn
   obtain ⟨E', g1, g2, g3, g4, hkp, hs, h7, hd1⟩ := hd.demote k
   have hx' : vd3 E' (demote1 rw' k) w (.own k) (a.eval x) := vd3.keeps hkp ⟨fun j _ => ⟨by rw [g4], h7 j⟩, fun j _ => by rw [g3]⟩ hx
   split
   rotate_left
   · trivial
   rename_i t r hR
   simp only [vd3, vd2, vd1, vd0] at hx'
   rw [hR] at hx'
   split
   rotate_left
   · trivial
   rename_i hsz
   have hgo : RS.good (.ob (0 ≤ l ∧ l ≤ h ∧ h ≤ n) (putv o.dst (.row t (r.sub l.toNat h.toNat)) ⟨fr, stk, bx, demote1 rw' k, dep⟩)) (OpGood P τ w0 E aS o a w) := by
    intro hp
    obtain ⟨A, c, hv, hc, hden⟩ := sub_den (show RowDen w (E'.F w t) r (a.eval x) from hx') l.toNat h.toNat (by omega) (by
     -- the length is the entry's
     have hnr : n = r.len := by
      simp only [lenOf] at hn
      cases hk0 : lk rw' k with
      | none => rw [hk0] at hn; simp at hn
      | some e0 =>
        rw [hk0] at hn
        simp only [Rw.lenK_eq] at hn
        injection hn with hn
        simp only [demote1, hk0, lk_upd, if_true] at hR
        injection hR with hR
        injection hR with _ hR
        rw [← hR]
        exact hn.symm
     omega)
    have hnr : n = r.len := by
     simp only [lenOf] at hn
     cases hk0 : lk rw' k with
     | none => rw [hk0] at hn; simp at hn
     | some e0 =>
       rw [hk0] at hn
       simp only [Rw.lenK_eq] at hn
       injection hn with hn
       simp only [demote1, hk0, lk_upd, if_true] at hR
       injection hR with hR
       injection hR with _ hR
       rw [← hR]
       exact hn.symm
    subst hnr
    refine opGood_value (w' := w) ?_ (hd1.put (show vd3 E' (demote1 rw' k) w (.row t (r.sub l.toNat h.toNat)) _ from hden) hdst) g1 g2
    simp only [execOp, ho, Option.map_none, hv, Sem.run_bind, slice_run hτ htd (size_of_beq hτ hsz) hlo hhi hp.1 hp.2.1 hp.2.2 hc, Result.andThen_ok]
    rfl
   split
   · rename_i hd0 tl hstk
     intro hp
     have hl0 : l = 0 := by simp only [bound] at hl; injection hl with hl; exact hl.symm
     subst hl0
     have hx2 : RowDen w (E'.F w t) r (a.eval x) := hx'
     obtain ⟨A, c, hv, hc, hden⟩ := sub_den hx2 0 h.toNat (by omega) (by rw [← pre_len hn hR]; omega)
     have hnr := pre_len hn hR
     subst hnr
     have hA : (if c = 0 then A else A.map (·.add (0 * r.sz))) = A := by
      split
      · rfl
      · rw [Nat.zero_mul]
        cases A <;> simp [Addr.add]
     refine opGood_value (w' := w) ?_ (hd1.put (show vd3 E' (demote1 rw' k) w (.pre t r h.toNat) (.slice A h.toNat c) from ⟨A, c, rfl, by omega, by rw [← hv]; exact hx2⟩) hdst) g1 g2
     have hlo2 : ((none : Option Value) = none ∧ (0 : Int) = 0) ∨ ∃ k, (none : Option Value) = some (.int k 0) := .inl ⟨rfl, rfl⟩
     simp only [execOp, ho, Option.map_none, hv, Sem.run_bind, slice_run hτ htd (size_of_beq hτ hsz) hlo2 hhi hp.1 hp.2.1 hp.2.2 hc, Result.andThen_ok]
     have e2 : h.toNat - (0 : Int).toNat = h.toNat := rfl
     have e3 : c - (0 : Int).toNat = c := rfl
     have e4 : (if c = (0 : Int).toNat then A else A.map (·.add ((0 : Int).toNat * r.sz))) = A := hA
     rw [e2, e3, e4]
     rfl
   · exact hgo
 · trivial
theorem src_ok (hd : Den τ w0 E s bs w) {x : SV} {v : Value} {t : Tag} {r : Rw} (hx : vd3 E s.rows w x v) (h : srcOf s.rows x = some (t, r)) :
  ∃ A c news, v = .slice A r.len c ∧ r.len ≤ c ∧ r.len * r.bts ≤ 140737488355328 ∧ (news : List Value).length = r.len * r.sz ∧ (0 < r.len → ∃ ad, A = some ad ∧ ∀ (j : Nat) u, news[j]? = some u → w.cell? (ad.add j) = some u) ∧
   ∀ i j x, i < r.len → (r.cell .any i)[j]? = some x → ∃ u, news[i * r.sz + j]? = some u ∧ cd1 w (E.F w t) x u := by
 have rowCase : ∀ v, RowDen w (E.F w t) r v → ∃ A c news, v = .slice A r.len c ∧ r.len ≤ c ∧ r.len * r.bts ≤ 140737488355328 ∧ (news : List Value).length = r.len * r.sz ∧ (0 < r.len → ∃ ad, A = some ad ∧ ∀ (j : Nat) u, news[j]? = some u → w.cell? (ad.add j) = some u) ∧
   ∀ i j x, i < r.len → (r.cell .any i)[j]? = some x → ∃ u, news[i * r.sz + j]? = some u ∧ cd1 w (E.F w t) x u := by
  rintro v ⟨h0, A, c, hv, hn, hc⟩
  by_cases hp : 0 < r.len
  · obtain ⟨ad, hA, hs, hF, hcd⟩ := hc hp
    have hsp := sz_pos r
    obtain ⟨news, hl, hnews⟩ := exists_list (p := fun (_ : Nat) (j : Nat) u => w.cell? (ad.add j) = some u ∧ ∀ y, (r.cell .any (j / r.sz))[j % r.sz]? = some y → cd1 w (E.F w t) y u) (List.range (r.len * r.sz)) fun j x hj => by
     have hjx : x < r.len * r.sz := by
      have := List.mem_of_getElem? hj
      simpa using this
     have h1 : x / r.sz < r.len := Nat.div_lt_of_lt_mul (by rw [Nat.mul_comm]; exact hjx)
     have h2 : x % r.sz < (r.cell .any (x / r.sz)).length := by rw [cell_len]; exact Nat.mod_lt _ hsp
     obtain ⟨u, hu, hd⟩ := hcd (x / r.sz) (x % r.sz) _ h1 (List.getElem?_eq_getElem h2)
     rw [show x / r.sz * r.sz + x % r.sz = x by rw [Nat.mul_comm]; exact Nat.div_add_mod x r.sz] at hu
     refine ⟨u, hu, fun y hy => ?_⟩
     rw [List.getElem?_eq_getElem h2] at hy
     injection hy with hy
     rw [← hy]
     exact hd
    have hll : news.length = r.len * r.sz := by rw [← hl]; simp
    refine ⟨A, c, news, hv, hn, h0, hll, fun _ => ⟨ad, hA, fun j u hu => ?_⟩, fun i j x hi hx => ?_⟩
    · have hj : j < r.len * r.sz := by rw [← hll]; exact (List.getElem?_eq_some_iff.1 hu).1
      obtain ⟨u', hu', h1, _⟩ := hnews j j (by simp [hj])
      rw [hu] at hu'
      injection hu' with hu'
      rw [hu']
      exact h1
    · have hj : j < r.sz := by
       have := (List.getElem?_eq_some_iff.1 hx).1
       rwa [cell_len] at this
      have hlt : i * r.sz + j < r.len * r.sz := by
       have : (i + 1) * r.sz ≤ r.len * r.sz := Nat.mul_le_mul_right _ hi
       rw [Nat.succ_mul] at this
       omega
      obtain ⟨u, hu, _, h2⟩ := hnews (i * r.sz + j) (i * r.sz + j) (by simp [hlt])
      have hdiv : (i * r.sz + j) / r.sz = i := by
       rw [Nat.mul_comm, Nat.mul_add_div hsp, Nat.div_eq_of_lt hj]
       omega
      have hmod : (i * r.sz + j) % r.sz = j := by rw [Nat.mul_comm, Nat.mul_add_mod, Nat.mod_eq_of_lt hj]
      exact ⟨u, hu, h2 x (by rw [hdiv, hmod]; exact hx)⟩
  · have : r.len = 0 := by omega
    exact ⟨A, c, [], hv, hn, h0, by simp [this], fun h => absurd h hp, fun i j x hi => by omega⟩
 have ownCase : ∀ k lo, OwnD τ E w k lo r → (t = .any ∨ (t = .new ∧ (r.len ≤ lo ∨ r.flat = true))) → ∃ A c news, E.hs k = .slice A r.len c ∧ r.len ≤ c ∧ r.len * r.bts ≤ 140737488355328 ∧ (news : List Value).length = r.len * r.sz ∧ (0 < r.len → ∃ ad, A = some ad ∧ ∀ (j : Nat) u, news[j]? = some u → w.cell? (ad.add j) = some u) ∧
   ∀ i j x, i < r.len → (r.cell .any i)[j]? = some x → ∃ u, news[i * r.sz + j]? = some u ∧ cd1 w (E.F w t) x u := by
  intro k lo hO ht
  obtain ⟨us, hrow, hcell⟩ := hO.row
  have hcd : ∀ i j x, i < r.len → (r.cell .any i)[j]? = some x → ∃ u, us[i * r.sz + j]? = some u ∧ cd1 w (E.F w t) x u := by
   intro i j x hi hx
   obtain ⟨u, hu, hd⟩ := hcell i j x hi hx
   refine ⟨u, hu, ?_⟩
   rcases ht with rfl | ⟨rfl, ht | ht⟩
   · exact cd1.any hd
   · rw [if_pos (by omega)] at hd; exact hd
   · exact (flat_sc ht hx _ _ _ _ u).1 hd
  rcases hrow.2 with ⟨hv, h0⟩ | ⟨g, cap, cur, hv, hg, hheap, hnc, _⟩
  · exact ⟨none, 0, us, by rw [hv, h0], by omega, hO.fits, hrow.1, fun h => by omega, hcd⟩
  · exact ⟨some ⟨g, 0, none⟩, cap, us, hv, hnc, hO.fits, hrow.1, fun _ => ⟨_, rfl, hrow.cells (g := g) (by rw [hv]; rfl)⟩, hcd⟩
 unfold srcOf at h
 split at h
 · injection h with h
   simp only [Prod.mk.injEq] at h
   obtain ⟨rfl, rfl⟩ := h
   exact rowCase v hx
 · injection h with h
   simp only [Prod.mk.injEq] at h
   obtain ⟨rfl, rfl⟩ := h
   obtain ⟨rfl, h0⟩ := hx
   exact rowCase _ (empty_row h0 _)
 · rename_i k
   split at h
   rotate_left
   · simp at h
   rename_i e hk
   injection h with h
   simp only [vd3, vd2, vd1, vd0] at hx
   rw [hk] at hx
   cases e with
   | own r' =>
     simp only [Ent.row, Prod.mk.injEq] at h
     obtain ⟨rfl, rfl⟩ := h
     obtain rfl : v = _ := hx
     exact ownCase k _ (hd.own k _ _ r' hk rfl) (.inr ⟨rfl, .inl (Nat.le_refl _)⟩)
   | part lo r' =>
     obtain rfl : v = _ := hx
     simp only [Ent.row, Prod.mk.injEq] at h
     obtain ⟨h1, rfl⟩ := h
     refine ownCase k lo (hd.own k _ _ r' hk rfl) ?_
     split at h1
     · rename_i hf; exact .inr ⟨h1.symm, .inr hf⟩
     · exact .inl h1.symm
   | shared t' r' =>
     simp only [Ent.row, Prod.mk.injEq] at h
     obtain ⟨rfl, rfl⟩ := h
     exact rowCase v hx
 · simp at h
theorem run_append_zero {T e : TypeId} (ht : P.underlying T = some (.slice e)) {i : TypeInfo} (hi : P.info? e = some i) (ty : TypeId) {base : Nat} {size n : Nat} {v : Value} {xs : List Value} (hown : w.ownsRow base e size v n xs) (A : Option Addr) (c : Nat) :
  (Builtin.append_ #[T, T] ty #[v, .slice A 0 c]).run P w = .ok v w := by
 have hf : (Builtin.firstCells i.size 0 (.slice A 0 c)).run P w = .ok #[] w := by cases A <;> simp [Builtin.firstCells, loadCells, loadCellsFrom]
 rcases hown.2 with ⟨rfl, rfl⟩ | ⟨g, cap, cur, rfl, _, _, hnc, _⟩
 · simp [Builtin.append_, run_underlying ht, sizeOf, typeInfo, hi, Builtin.lenOf, hf]
 · simp [Builtin.append_, run_underlying ht, sizeOf, typeInfo, hi, Builtin.lenOf, hf, hnc, storeCells]
theorem append_run (hτ : TysOk P τ) (hd : Den τ w0 E s bs w) {T e : TypeId} (htd : τ.td T = .slice e) {kd : Nat} (hrk : τ.rk e = some kd) (ty : TypeId) {r1 r2 r : Rw} (h1 : r1.kd = kd) (h2 : r2.kd = kd) (happ : r1.app r2 = some r)
  {v : Value} {us : List Value} (hown : w.ownsRow E.M (τ.et r1.kd) r1.sz v r1.len us) {y : SV} {vy : Value} (hy : vd3 E s.rows w y vy) {t : Tag} (hsrc : srcOf s.rows y = some (t, r2)) (hbytes : (r1.len + r2.len) * r2.bts ≤ 140737488355328) :
  ∃ v' w' us', (Builtin.append_ #[T, T] ty #[v, vy]).run P w = .ok v' w' ∧ w'.ownsRow E.M (τ.et r.kd) r.sz v' r.len us' ∧ w.grownBy w' v.ownBlock ∧ (v'.ownBlock = v.ownBlock ∨ v'.ownBlock = some w.heap.size) ∧
   (∀ i j, i < r1.len → j < r1.sz → us'[i * r.sz + j]? = us[i * r1.sz + j]?) ∧
   ∀ i j x, i < r2.len → (r2.cell .any i)[j]? = some x → ∃ u, us'[(r1.len + i) * r.sz + j]? = some u ∧ cd1 w (E.F w t) x u := by
 obtain ⟨hk10, het, ti, hti, hsz, hby, _⟩ := hτ.rk e kd hrk
 obtain ⟨x, z, g1, g2, g3, g4, g5, g6⟩ := (hτ.ti e ti hti).info
 have hs := hτ.slice htd
 obtain ⟨hkd1, hkd2, hlen, hc1, hc2⟩ := app_cell happ
 have e1 : r1.sz = kdSz kd := by unfold Rw.sz; rw [h1]
 have e2 : r2.sz = kdSz kd := by unfold Rw.sz; rw [h2]
 have e3 : r.sz = kdSz kd := by unfold Rw.sz; rw [hkd1, h1]
 have e4 : r.kd = kd := by rw [hkd1, h1]
 have e5 : r2.bts = kdBytes kd := by unfold Rw.bts; rw [h2]
 obtain ⟨A, c, news, rfl, hnc, hfit, hnl, hcell, hcd⟩ := src_ok hd hy hsrc
 have hone : ∀ u ∈ news, u.oneCell' = true := by
  intro u hu
  obtain ⟨m, hm, rfl⟩ := List.getElem_of_mem hu
  have hsp := sz_pos r2
  have hm' : m < r2.len * r2.sz := by rw [← hnl]; exact hm
  have hi : m / r2.sz < r2.len := Nat.div_lt_of_lt_mul (by rw [Nat.mul_comm]; exact hm')
  have hj : m % r2.sz < (r2.cell .any (m / r2.sz)).length := by rw [cell_len]; exact Nat.mod_lt _ hsp
  obtain ⟨u, hu, hd⟩ := hcd _ _ _ hi (List.getElem?_eq_getElem hj)
  rw [show m / r2.sz * r2.sz + m % r2.sz = m by rw [Nat.mul_comm]; exact Nat.div_add_mod m r2.sz, List.getElem?_eq_getElem hm] at hu
  injection hu with hu
  rw [hu]
  generalize (r2.cell .any (m / r2.sz))[m % r2.sz] = q at hd
  cases q <;> first
   | exact hd.elim
   | (obtain rfl : u = _ := hd; rfl)
   | (obtain ⟨_, A, c, rfl, _⟩ := hd; rfl)
 have hcells : ∀ us0 : List Value, us0.length = r1.len * r1.sz → (∀ i j, i < r1.len → j < r1.sz → (us0 ++ news)[i * r.sz + j]? = us0[i * r1.sz + j]?) ∧ ∀ i j x, i < r2.len → (r2.cell .any i)[j]? = some x → ∃ u, (us0 ++ news)[(r1.len + i) * r.sz + j]? = some u ∧ cd1 w (E.F w t) x u := by
  intro us0 hul
  refine ⟨fun i j hi hj => ?_, fun i j x hi hx => ?_⟩
  · rw [e3, e1]
    have : (i + 1) * kdSz kd ≤ r1.len * kdSz kd := Nat.mul_le_mul_right _ hi
    rw [Nat.succ_mul] at this
    rw [e1] at hj hul
    rw [List.getElem?_append_left (by omega)]
  · obtain ⟨u, hu, hd⟩ := hcd i j x hi hx
    refine ⟨u, ?_, hd⟩
    rw [e1] at hul
    rw [e3, Nat.add_mul, List.getElem?_append_right (by omega)]
    rw [show r1.len * kdSz kd + i * kdSz kd + j - us0.length = i * kdSz kd + j by omega, ← e2]
    exact hu
 by_cases hp : 0 < r2.len
 · obtain ⟨ad, rfl, hnews⟩ := hcell hp
   have h63 : r1.len + r2.len ≤ maxLen := by
    have hb : 1 ≤ r2.bts := by rw [e5]; unfold kdBytes; split <;> omega
    have : (r1.len + r2.len) * 1 ≤ (r1.len + r2.len) * r2.bts := Nat.mul_le_mul_left _ hb
    unfold maxLen
    omega
   obtain ⟨v', w', hr, ho, hg, _, hat⟩ := run_append_own_at (P := P) w E.M T ty e x z r1.sz r2.bts hs g1 g4 (by rw [g2, hsz, e1]) (by rw [g3, hby, e5]) (by rw [g5, hsz, e1]) (sz_pos r1) v r1.len us
    (by rw [← het, ← h1]; exact hown) ad r2.len c news (by rw [hnl, e1, e2]) hnews hone h63 hbytes hd.Mh
   have hc := hcells us hown.1
   exact ⟨v', w', us ++ news, hr, by rw [e4, het, e3, ← e1, hlen]; exact ho, hg, hat, hc.1, hc.2⟩
 · have h0 : r2.len = 0 := by omega
   have hr := run_append_zero (P := P) (w := w) hs g1 ty (by rw [← het, ← h1]; exact hown) A c
   refine ⟨v, w, us, by rw [h0]; exact hr, by rw [e4, e3, ← e1, hlen, h0, ← h1]; exact hown, ⟨rfl, rfl, rfl, Nat.le_refl _, fun _ _ _ => rfl⟩, .inl rfl, fun i j _ _ => by rw [e3, e1], fun i j x hi => by omega⟩
end
end Go.Proofs.YtjjpakdlkjaigaaGreat

/- A symbolic executor for loaded Go code: each step is the machine's: append, make; one step. -/
namespace Go.Proofs.YtjjpakdlkjaigaaGreat
open Go.RowKit
section
variable {P : Program} {τ : Tys} {w0 : World} {E : Env} {aS : List (Array Value)} {a : Act} {w : World}
variable {s : St} {bs : List (Array Value)} {o : Oper}
variable {fr : List (Nat × SV)} {stk : List (List (Nat × SV))} {bx : List (Nat × (TypeId × List SV))} {rw' : List (Nat × Ent)} {dep : Nat}
theorem tag_up {t : Tag} {r : Rw} {i j : Nat} {x : SV} {u : Value} (hx : (r.cell .any i)[j]? = some x) (h : cd1 w (E.F w t) x u) (ht : tagOk t r = true) : cd1 w (E.F w .new) x u := by
 unfold tagOk at ht
 split at ht
 · rename_i hf; exact (flat_sc hf hx _ _ _ _ u).1 h
 · cases t with
   | new => exact h
   | _ => simp [Tag.isNew] at ht
theorem kd_flat {r r' : Rw} (h : r.kd = r'.kd) : r.flat = r'.flat := by cases r <;> cases r' <;> first | rfl | simp [Rw.kd] at h
theorem append_good (hτ : TysOk P τ) (hd : Den τ w0 E ⟨fr, stk, bx, rw', dep⟩ (a.tmps :: aS) w) (hdst : ∀ t, o.dst = some t → t < a.tmps.size) (c : Call) (T : TypeId) (x y : Operand) (ho : o.op = .call c) (hb : c.callee = .builtin .append) (hx : c.args.toList = [x, y]) (hT : c.argTypes.toList = [T, T]) :
  (stepAppend τ T x y o.dst ⟨fr, stk, bx, rw', dep⟩).good (OpGood P τ w0 E aS o a w) := by
 have hargs : c.args = #[x, y] := by rw [← Array.toArray_toList (xs := c.args), hx]
 have hts : c.argTypes = #[T, T] := by rw [← Array.toArray_toList (xs := c.argTypes), hT]
 have hrun : ∀ v' w', (Builtin.append_ #[T, T] o.type #[a.eval x, a.eval y]).run P w = .ok v' w' → (execOp a.eval o).run P w = .ok (.value v') w' := by
  intro v' w' h
  simp only [execOp, ho, resolve, hb, hargs, hts, invoke, builtin, Sem.run_bind, Sem.run_pure, Result.andThen_ok]
  simp [h]
 unfold stepAppend
 dsimp only
 split
 rotate_left
 · trivial
 rename_i e d htd hdd
 simp only [SV.force_eq]
 have hvx := hd.getT T x
 have hvy := hd.getT T y
 split
 rotate_left
 · trivial
 rename_i t r2 kd hsrc hrk
 split
 rotate_left
 · trivial
 rename_i hk2
 have hk2 := Nat.eq_of_beq_eq_true hk2
 split
 · -- onto nil
   rename_i r1 hr1
   rw [hr1] at hvx
   obtain ⟨hvx, h0⟩ := hvx
   split
   rotate_left
   · trivial
   rename_i r hk1 happ hno
   have hk1 := Nat.eq_of_beq_eq_true hk1
   have key : ∀ ent lo, ent.mine = some (lo, r) → (lo = 0 ∨ tagOk t r2 = true) → r2.len * r2.bts ≤ 140737488355328 → OpGood P τ w0 E aS o a w ⟨(d, .own (dep + d)) :: fr, stk, bx, upd rw' (dep + d) ent, dep⟩ := by
    intro ent lo hm hlo hbytes
    obtain ⟨v', w', us', hr, hown, hg, hat, _, hc2⟩ := append_run hτ hd htd hrk o.type hk1 hk2 happ (v := .slice none 0 0) (us := []) (by rw [h0]; exact World.ownsRow_nil w _ _ _) hvy hsrc (by rw [h0, Nat.zero_add]; exact hbytes)
    obtain ⟨e1, e2, hlen, _, hcr⟩ := app_cell happ
    have hbts : r.bts = r2.bts := by unfold Rw.bts; rw [e2]
    have hblk : ∀ g, v'.ownBlock = some g → w.heap.size ≤ g ∧ g < w'.heap.size := by
     intro g hg'
     refine ⟨?_, (hown.lt g hg').2⟩
     rcases hat with hat | hat
     · rw [hat] at hg'; simp [Value.ownBlock] at hg'
     · rw [hat] at hg'; injection hg' with hg'; omega
    have hd2 := hd.newRow (dep + d) hno w' (by simpa [Value.ownBlock] using hg) v' ent lo r hm us' hblk (by rw [hbts, hlen, h0, Nat.zero_add]; exact hbytes) hown (fun i j x hi hx => by
     rw [hlen, h0, Nat.zero_add] at hi
     have hcell := hcr .any i
     rw [h0, Nat.zero_add] at hcell
     rw [hcell] at hx
     obtain ⟨u, hu, hcd⟩ := hc2 i j x hi hx
     rw [h0, Nat.zero_add] at hu
     refine ⟨u, hu, cd1_add (w := w) ?_ (fun g _ hlt => hg.block g hlt (by simp [Value.ownBlock])) (fun g hg' => .inl (hblk g hg').1)⟩
     split
     · rename_i hi2
       rcases hlo with rfl | hlo
       · omega
       · exact tag_up hx hcd hlo
     · exact cd1.any hcd)
    refine opGood_value (E' := E.add (dep + d) v') (hrun _ _ (by rw [hvx]; exact hr)) ?_ rfl rfl
    rw [hdd]
    refine put_ptr d hd2 ?_ (hdst d hdd)
    simp only [vd3, vd2, vd1, vd0, lk_upd, if_true]
    cases ent with
    | own r => simp [Env.add]
    | part lo r => simp [Env.add]
    | shared t r => simp [Ent.mine] at hm
   split
   · rename_i htag; exact key (.own r) r.len rfl (.inr htag)
   · exact key (.part 0 r) 0 rfl (.inl rfl)
 · -- onto an own row
   rename_i k hxk
   rw [hxk] at hvx
   simp only [vd3, vd2, vd1, vd0] at hvx
   have key : ∀ ent lo r1 ent' lo' r, lk rw' k = some ent → ent.mine = some (lo, r1) → r1.kd = kd → r1.app r2 = some r → ent'.mine = some (lo', r) → (∀ i, i < r1.len → i < lo' → i < lo) → (∀ i, r1.len ≤ i → i < lo' → tagOk t r2 = true) → a.eval x = E.hs k → (r1.len + r2.len) * r2.bts ≤ 140737488355328 →
     OpGood P τ w0 E aS o a w ⟨(d, .own k) :: killF k fr, killS k stk, killB k bx, upd rw' k ent', dep⟩ := by
    intro ent lo r1 ent' lo' r hk hm hk1 happ hm' hold hnew hvx hbytes
    have hO := hd.own k ent lo r1 hk hm
    obtain ⟨us, hrow, hcell⟩ := hO.row
    obtain ⟨v', w', us', hr, hown, hg, hat, hc1, hc2⟩ := append_run hτ hd htd hrk o.type hk1 hk2 happ hrow hvy hsrc hbytes
    obtain ⟨e1, e2, hlen, hcl, hcr⟩ := app_cell happ
    have hbts : r.bts = r2.bts := by unfold Rw.bts; rw [e2]
    have hsz : r.sz = r1.sz := Rw.sz_of_kd e1
    have hblk : ∀ g, v'.ownBlock = some g → (w.heap.size ≤ g ∨ some g = (E.hs k).ownBlock) ∧ g < w'.heap.size := by
     intro g hg'
     refine ⟨?_, (hown.lt g hg').2⟩
     rcases hat with hat | hat
     · rw [hat] at hg'; exact .inr hg'.symm
     · rw [hat] at hg'; injection hg' with hg'; exact .inl (by omega)
    have hheap : ∀ g, ¬ E.ow g → g < w.heap.size → w'.heap[g]? = w.heap[g]? := fun g hg' hlt => hg.block g hlt fun e => hg' (hO.ow g e.symm)
    have hnb : ∀ g, v'.ownBlock = some g → w.heap.size ≤ g ∨ E.ow g := fun g hg' => (hblk g hg').1.imp id fun e => hO.ow g e.symm
    have hd2 := hd.growRow k w' hg hk hm v' ent' lo' r hm' us' hblk (by rw [hbts, hlen]; exact hbytes) hown (fun i j x hi hx => by
     by_cases h1 : i < r1.len
     · rw [hcl .any i h1] at hx
       obtain ⟨u, hu, hcd⟩ := hcell i j x h1 hx
       have hj : j < r1.sz := by
        have := (List.getElem?_eq_some_iff.1 hx).1
        rwa [cell_len] at this
       refine ⟨u, by rw [hc1 i j h1 hj]; exact hu, cd1_add (w := w) ?_ hheap hnb⟩
       split
       · rename_i hlo
         rw [if_pos (hold i h1 hlo)] at hcd
         exact hcd
       · exact cd1.any hcd
     · have hi2 : i = r1.len + (i - r1.len) := by omega
       rw [hi2, hcr .any (i - r1.len)] at hx
       obtain ⟨u, hu, hcd⟩ := hc2 (i - r1.len) j x (by omega) hx
       rw [← hi2] at hu
       refine ⟨u, hu, cd1_add (w := w) ?_ hheap hnb⟩
       split
       · rename_i hlo
         exact tag_up hx hcd (hnew i (by omega) hlo)
       · exact cd1.any hcd)
    refine opGood_value (E' := E.add k v') (hrun _ _ (by rw [hvx]; exact hr)) ?_ rfl rfl
    rw [hdd]
    refine put_ptr d hd2 ?_ (hdst d hdd)
    simp only [vd3, vd2, vd1, vd0, lk_upd, if_true]
    cases ent' with
    | own r => simp [Env.add]
    | part lo r => simp [Env.add]
    | shared t r => simp [Ent.mine] at hm'
   split
   · rename_i r1 hk
     rw [hk] at hvx
     split
     · rename_i r hk1 happ htag
       simp only [forceF_eq, forceS_eq, forceB_eq]
       intro hbytes
       exact key (.own r1) r1.len r1 (.own r) r.len r hk rfl (Nat.eq_of_beq_eq_true hk1) happ rfl (fun i h _ => h) (fun _ _ _ => htag) hvx hbytes
     rotate_left
     · trivial
     rename_i r hk1 happ htag
     simp only [forceF_eq, forceS_eq, forceB_eq]
     intro hbytes
     exact key (.own r1) r1.len r1 (.part r1.len r) r1.len r hk rfl (Nat.eq_of_beq_eq_true hk1) happ rfl (fun i h _ => h) (fun i h1 h2 => by omega) hvx hbytes
   · rename_i lo r1 hk
     rw [hk] at hvx
     split
     rotate_left
     · trivial
     rename_i r hk1 happ
     simp only [forceF_eq, forceS_eq, forceB_eq]
     rintro ⟨hbytes, hlo⟩
     exact key (.part lo r1) lo r1 (.part lo r) lo r hk rfl (Nat.eq_of_beq_eq_true hk1) happ rfl (fun i _ h => h) (fun i h1 h2 => by omega) hvx hbytes
   · trivial
 · trivial
theorem zeros_cell_at (k n i : Nat) (t : Tag) (hi : i < n) : (Rw.zeros k n).cell t i = (Rw.zeros k 1).cell t 0 := by
 unfold Rw.zeros
 split <;> simp [Rw.cell, List.getD_eq_getElem?_getD, List.getElem?_replicate, hi]
theorem make_good (hτ : TysOk P τ) (hd : Den τ w0 E ⟨fr, stk, bx, rw', dep⟩ (a.tmps :: aS) w) (hdst : ∀ t, o.dst = some t → t < a.tmps.size) (T : TypeId) (x : Operand) (ho : o.op = .makeSlice T x x) :
  (stepMake τ T x o.dst ⟨fr, stk, bx, rw', dep⟩).good (OpGood P τ w0 E aS o a w) := by
 unfold stepMake
 dsimp only
 split
 rotate_left
 · trivial
 rename_i e d htd hdd
 split
 rotate_left
 · trivial
 rename_i kd n hrk hn hno
 rintro ⟨h0, hbytes⟩
 have hx := hd.get x
 rw [hn] at hx
 obtain hx : a.eval x = .int .i64 n := hx
 obtain ⟨hk10, het, ti, hti, hsz, hby, hfit, hnorow⟩ := hτ.rk e kd hrk
 obtain ⟨y, z, g1, g2, g3, g4, g5, g6⟩ := (hτ.ti e ti hti).info
 have hs := hτ.slice htd
 obtain ⟨hzk, hzl⟩ := zeros_cell kd n.toNat hk10
 obtain ⟨m, rfl⟩ := Int.eq_ofNat_of_zero_le h0
 simp only [Int.toNat_natCast] at hzk hzl ⊢
 have hbm' : ((m * kdBytes kd : Nat) : Int) ≤ 140737488355328 := by rw [Int.natCast_mul]; exact hbytes
 have hbm : m * kdBytes kd ≤ 140737488355328 := by omega
 have hpos : 1 ≤ kdBytes kd := by unfold kdBytes; split <;> omega
 have hm1 : m * 1 ≤ m * kdBytes kd := Nat.mul_le_mul_left _ hpos
 obtain ⟨w', hr, hown, hg⟩ := run_make_full (P := P) w E.M T e y z (kdSz kd) hs g1 g4 (by rw [g2, hsz]) .i64 .i64 m (by rw [g3, hby, Nat.mul_comm]; omega) (by unfold maxLen; omega) hd.Mh
 have hzsz : (Rw.zeros kd m).sz = kdSz kd := by unfold Rw.sz; rw [hzk]
 have hblk : ∀ g, (Value.slice (some ⟨w.heap.size, 0, none⟩) m m).ownBlock = some g → w.heap.size ≤ g ∧ g < w'.heap.size := by
  intro g hg'
  refine ⟨?_, (hown.lt g hg').2⟩
  simp [Value.ownBlock] at hg'
  omega
 have hd2 := hd.newRow (dep + d) hno w' hg (.slice (some ⟨w.heap.size, 0, none⟩) m m) (.own (Rw.zeros kd m)) (Rw.zeros kd m).len (Rw.zeros kd m) rfl (madeCells z.cells (m * kdSz kd)).toList hblk
  (by unfold Rw.bts; rw [hzk, hzl]; exact hbm) (by rw [hzk, hzl, hzsz, het]; exact hown) (fun i j x hi hx => by
    rw [hzl] at hi
    rw [zeros_cell_at kd m i .any hi] at hx
    obtain ⟨y', hy', hfx⟩ := hfit.2 j x hx
    obtain ⟨u, hu, hv⟩ := (g6 E rw' w).2 j y' hy'
    have hj : j < kdSz kd := by
     have := (List.getElem?_eq_some_iff.1 hx).1
     rw [cell_len] at this
     have h1 := (zeros_cell kd 1 hk10).1
     unfold Rw.sz at this
     rw [h1] at this
     exact this
    have hlt : i * kdSz kd + j < m * kdSz kd := by
     have : (i + 1) * kdSz kd ≤ m * kdSz kd := Nat.mul_le_mul_right _ hi
     rw [Nat.succ_mul] at this
     omega
    refine ⟨u, ?_, ?_⟩
    · rw [hzsz]
      have hmod : (i * kdSz kd + j) % z.cells.size = j := by
       rw [g5, hsz, Nat.mul_comm, Nat.mul_add_mod, Nat.mod_eq_of_lt hj]
      have hz : z.cells[(i * kdSz kd + j) % z.cells.size]! = u := by
       rw [hmod]
       have hj2 : j < z.cells.size := by rw [g5, hsz]; exact hj
       rw [getElem!_pos z.cells j hj2]
       simpa [Array.getElem?_eq_getElem hj2] using hu
      simp only [madeCells, Array.toList_map, Array.toList_range, List.getElem?_map, List.getElem?_range hlt, Option.map_some]
      exact congrArg some hz
    · rw [if_pos (by omega)]
      have hvd1 : vd1 E rw' w y' u := by cases y' <;> first | exact hv | exact hv.elim
      have hcd : cd1 w (E.F w .new) x u := hfx.cd hvd1 (by
       cases y' with
       | row t r => exact absurd (List.mem_of_getElem? hy') (hnorow t r)
       | _ => trivial)
      exact cd1_add (w := w) hcd (fun g _ hlt => hg.block g hlt (by simp)) (fun g hg' => .inl (hblk g hg').1))
 refine opGood_value (v := .slice (some ⟨w.heap.size, 0, none⟩) m m) (E' := E.add (dep + d) (.slice (some ⟨w.heap.size, 0, none⟩) m m)) (w' := w') ?_ ?_ rfl rfl
 · simp only [execOp, ho, hx, Sem.run_bind]
   rw [show (Instr.makeSlice T (.int .i64 ((m : Nat) : Int)) (.int .i64 ((m : Nat) : Int))).run P w = _ from hr]
   rfl
 · rw [hdd]
   refine put_ptr d hd2 ?_ (hdst d hdd)
   simp [vd3, vd2, vd1, vd0, lk_upd, Env.add]
end
end Go.Proofs.YtjjpakdlkjaigaaGreat
