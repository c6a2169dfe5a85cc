/-
  No cell of these rows narrows 'for every input' (looked for: loops, veiled, ifaces, maps, wideKeys, modest, calm, conditions, laid).
  DERIVED. THE GIVEN ROWS OF THIS SEAT. 8 by the template 'for every input the law returns true; each argument reads behind the call as it read before'; 0 by the template 'total and deterministic' (their statements: YtaapoiikbolgnaaTotals.lean).
  GIVEN WITH THE SEED: the statements are not yours to turn. If you find one false, say at which input.
  Laid BY PROGRAM, IN A SANDBOX (cutbox-rows.mjs): the forced cells as the released guide's own fill.sh prints them over the translation f45c90e126504211… (all of the seat's roots in one cut). By AI agents, Wed Nov 11 2026. No macro, syntax, notation, axiom, sorry.
-/
import Derived.Test.YtaapoiikbolgnaaChecked
import GoSem.Claim
import GoSem.ClaimJoined
import GoSem.ClaimMapViews
import Derived.JoinedTies
import Derived.KernelRfl
namespace Go.Proofs.Ytaapoiikbolgnaa
/- THE CELL 'sum', in the pinned program and in every row, IS THE sha256 OF THE DUMP (.gsa) THAT YtaapoiikbolgnaaProg.lean LOADS. Nothing in Lean hashes anything: it is a label: what it is worth is what the hold of that sum in a sandbox is worth. -/
noncomputable def Try.pinned : Pinned := { name := "ytaapoiikbolgnaa", sum := "f45c90e12650421108979f42abc834fe4f9a3af6ca9bda110126742f7fcf8d1d", checked := Try.checked }
namespace Rows
def none {H : Type} : Left H := { results := [], args := [] }

/-- 'gimmallaw16.Nodes': WHATEVER THE INPUT: true; the input reads as it did. -/
def nodesSpec : ChangeSpec := { name := "nodes", fn := fun _ => fun
  | [d1, d2, d3] => { results := [.lit (.bool true)], args := [d1, d2, d3] }
  | _ => none }
def nodesRow : OpenClaim := { program := "ytaapoiikbolgnaa", sum := "f45c90e12650421108979f42abc834fe4f9a3af6ca9bda110126742f7fcf8d1d", func := "gimmal/gimmallaw16.Nodes", spec := "nodes", inPlace := ["slices.overlaps[int]"], unfollowed := true, recurses := true, apart := false }
def NodesSaid : Prop := nodesRow.holds Try.pinned (OpenSpec.ofChange nodesSpec)

/-- ITS FALSE NEIGHBOUR: 'it returns false'. Refute it at one input. -/
def nodesWrong : ChangeSpec := { name := "nodes", fn := fun _ => fun
  | [d1, d2, d3] => { results := [.lit (.bool false)], args := [d1, d2, d3] }
  | _ => none }
def NodesWrongFalsely : Prop := nodesRow.holds Try.pinned (OpenSpec.ofChange nodesWrong)

/-- 'gimmallaw16.NodeForms': WHATEVER THE INPUT: true; the input reads as it did. -/
def nodeFormsSpec : ChangeSpec := { name := "nodeForms", fn := fun _ => fun
  | [d1, d2] => { results := [.lit (.bool true)], args := [d1, d2] }
  | _ => none }
def nodeFormsRow : OpenClaim := { program := "ytaapoiikbolgnaa", sum := "f45c90e12650421108979f42abc834fe4f9a3af6ca9bda110126742f7fcf8d1d", func := "gimmal/gimmallaw16.NodeForms", spec := "nodeForms", inPlace := ["slices.overlaps[int]"], unfollowed := true, recurses := true, apart := false }
def NodeFormsSaid : Prop := nodeFormsRow.holds Try.pinned (OpenSpec.ofChange nodeFormsSpec)

/-- ITS FALSE NEIGHBOUR: 'it returns false'. Refute it at one input. -/
def nodeFormsWrong : ChangeSpec := { name := "nodeForms", fn := fun _ => fun
  | [d1, d2] => { results := [.lit (.bool false)], args := [d1, d2] }
  | _ => none }
def NodeFormsWrongFalsely : Prop := nodeFormsRow.holds Try.pinned (OpenSpec.ofChange nodeFormsWrong)

/-- 'gimmallaw16.NodeNew': WHATEVER THE INPUT: true; the input reads as it did. -/
def nodeNewSpec : ChangeSpec := { name := "nodeNew", fn := fun _ => fun
  | [d1, d2] => { results := [.lit (.bool true)], args := [d1, d2] }
  | _ => none }
def nodeNewRow : OpenClaim := { program := "ytaapoiikbolgnaa", sum := "f45c90e12650421108979f42abc834fe4f9a3af6ca9bda110126742f7fcf8d1d", func := "gimmal/gimmallaw16.NodeNew", spec := "nodeNew", inPlace := ["slices.overlaps[int]"], unfollowed := true, recurses := true, apart := false }
def NodeNewSaid : Prop := nodeNewRow.holds Try.pinned (OpenSpec.ofChange nodeNewSpec)

/-- ITS FALSE NEIGHBOUR: 'it returns false'. Refute it at one input. -/
def nodeNewWrong : ChangeSpec := { name := "nodeNew", fn := fun _ => fun
  | [d1, d2] => { results := [.lit (.bool false)], args := [d1, d2] }
  | _ => none }
def NodeNewWrongFalsely : Prop := nodeNewRow.holds Try.pinned (OpenSpec.ofChange nodeNewWrong)

/-- 'gimmallaw16.NodeDown': WHATEVER THE INPUT: true; the input reads as it did. -/
def nodeDownSpec : ChangeSpec := { name := "nodeDown", fn := fun _ => fun
  | [d1, d2] => { results := [.lit (.bool true)], args := [d1, d2] }
  | _ => none }
def nodeDownRow : OpenClaim := { program := "ytaapoiikbolgnaa", sum := "f45c90e12650421108979f42abc834fe4f9a3af6ca9bda110126742f7fcf8d1d", func := "gimmal/gimmallaw16.NodeDown", spec := "nodeDown", inPlace := ["slices.overlaps[int]"], unfollowed := true, recurses := true, apart := false }
def NodeDownSaid : Prop := nodeDownRow.holds Try.pinned (OpenSpec.ofChange nodeDownSpec)

/-- ITS FALSE NEIGHBOUR: 'it returns false'. Refute it at one input. -/
def nodeDownWrong : ChangeSpec := { name := "nodeDown", fn := fun _ => fun
  | [d1, d2] => { results := [.lit (.bool false)], args := [d1, d2] }
  | _ => none }
def NodeDownWrongFalsely : Prop := nodeDownRow.holds Try.pinned (OpenSpec.ofChange nodeDownWrong)

/-- 'gimmallaw11.Ages': WHATEVER THE INPUT: true; the input reads as it did. -/
def agesSpec : ChangeSpec := { name := "ages", fn := fun _ => fun
  | [d] => { results := [.lit (.bool true)], args := [d] }
  | _ => none }
def agesRow : OpenClaim := { program := "ytaapoiikbolgnaa", sum := "f45c90e12650421108979f42abc834fe4f9a3af6ca9bda110126742f7fcf8d1d", func := "gimmal/gimmallaw11.Ages", spec := "ages", inPlace := ["slices.overlaps[int]"], unfollowed := true, recurses := true, apart := false }
def AgesSaid : Prop := agesRow.holds Try.pinned (OpenSpec.ofChange agesSpec)

/-- ITS FALSE NEIGHBOUR: 'it returns false'. Refute it at one input. -/
def agesWrong : ChangeSpec := { name := "ages", fn := fun _ => fun
  | [d] => { results := [.lit (.bool false)], args := [d] }
  | _ => none }
def AgesWrongFalsely : Prop := agesRow.holds Try.pinned (OpenSpec.ofChange agesWrong)

/-- 'gimmallaw11.AgeKeeps': WHATEVER THE INPUT: true; the input reads as it did. -/
def ageKeepsSpec : ChangeSpec := { name := "ageKeeps", fn := fun _ => fun
  | [d] => { results := [.lit (.bool true)], args := [d] }
  | _ => none }
def ageKeepsRow : OpenClaim := { program := "ytaapoiikbolgnaa", sum := "f45c90e12650421108979f42abc834fe4f9a3af6ca9bda110126742f7fcf8d1d", func := "gimmal/gimmallaw11.AgeKeeps", spec := "ageKeeps", inPlace := ["slices.overlaps[int]"], unfollowed := true, recurses := true, apart := false }
def AgeKeepsSaid : Prop := ageKeepsRow.holds Try.pinned (OpenSpec.ofChange ageKeepsSpec)

/-- ITS FALSE NEIGHBOUR: 'it returns false'. Refute it at one input. -/
def ageKeepsWrong : ChangeSpec := { name := "ageKeeps", fn := fun _ => fun
  | [d] => { results := [.lit (.bool false)], args := [d] }
  | _ => none }
def AgeKeepsWrongFalsely : Prop := ageKeepsRow.holds Try.pinned (OpenSpec.ofChange ageKeepsWrong)

/-- 'gimmallaw11.AgeAll': WHATEVER THE INPUT: true; the input reads as it did. -/
def ageAllSpec : ChangeSpec := { name := "ageAll", fn := fun _ => fun
  | [d] => { results := [.lit (.bool true)], args := [d] }
  | _ => none }
def ageAllRow : OpenClaim := { program := "ytaapoiikbolgnaa", sum := "f45c90e12650421108979f42abc834fe4f9a3af6ca9bda110126742f7fcf8d1d", func := "gimmal/gimmallaw11.AgeAll", spec := "ageAll", inPlace := ["slices.overlaps[int]"], unfollowed := true, recurses := true, apart := false }
def AgeAllSaid : Prop := ageAllRow.holds Try.pinned (OpenSpec.ofChange ageAllSpec)

/-- ITS FALSE NEIGHBOUR: 'it returns false'. Refute it at one input. -/
def ageAllWrong : ChangeSpec := { name := "ageAll", fn := fun _ => fun
  | [d] => { results := [.lit (.bool false)], args := [d] }
  | _ => none }
def AgeAllWrongFalsely : Prop := ageAllRow.holds Try.pinned (OpenSpec.ofChange ageAllWrong)

/-- 'gimmallaw11.AgeHeard': WHATEVER THE INPUT: true; the input reads as it did. -/
def ageHeardSpec : ChangeSpec := { name := "ageHeard", fn := fun _ => fun
  | [d1, d2] => { results := [.lit (.bool true)], args := [d1, d2] }
  | _ => none }
def ageHeardRow : OpenClaim := { program := "ytaapoiikbolgnaa", sum := "f45c90e12650421108979f42abc834fe4f9a3af6ca9bda110126742f7fcf8d1d", func := "gimmal/gimmallaw11.AgeHeard", spec := "ageHeard", inPlace := ["slices.overlaps[int]"], unfollowed := true, recurses := true, apart := false }
def AgeHeardSaid : Prop := ageHeardRow.holds Try.pinned (OpenSpec.ofChange ageHeardSpec)

/-- ITS FALSE NEIGHBOUR: 'it returns false'. Refute it at one input. -/
def ageHeardWrong : ChangeSpec := { name := "ageHeard", fn := fun _ => fun
  | [d1, d2] => { results := [.lit (.bool false)], args := [d1, d2] }
  | _ => none }
def AgeHeardWrongFalsely : Prop := ageHeardRow.holds Try.pinned (OpenSpec.ofChange ageHeardWrong)

/- THE SECOND FORM. 'bulk': how many values and letters a reading holds, each counted each time it is reached (what is shared counts as often as it is met; a slice's spare places count too). A statement '..UptoSaid' is the law's where the arguments, and the package variables that the reading takes, are together of bulk at most 1048576: NARROWER than '..Said'. Prove '..Said' where nothing that the law and all that it calls make is longer than what came in: it says more and counts as full. Else prove '..UptoSaid'. A law counts once. -/
mutual
def uptoBulk {H : Type} : DataW H → Nat
  | .lit (.string bytes) => bytes.length + 1
  | .lit _ => 1
  | .nil => 1
  | .ptr d => uptoBulk d + 1
  | .slice elems spare => uptoBulkAll elems + uptoBulkAll spare + 1
  | .agg parts => uptoBulkAll parts + 1
  | .iface _ d => uptoBulk d + 1
  | .map entries => uptoBulkEntries entries + 1
  | .held _ => 1
def uptoBulkAll {H : Type} : List (DataW H) → Nat
  | [] => 0
  | d :: r => uptoBulk d + uptoBulkAll r
def uptoBulkEntries {H : Type} : List (Lit × DataW H) → Nat
  | [] => 0
  | x :: r => uptoBulkEntry x + uptoBulkEntries r
def uptoBulkEntry {H : Type} : Lit × DataW H → Nat
  | (.string bytes, d) => bytes.length + uptoBulk d + 1
  | (_, d) => uptoBulk d + 1
 end
def uptoSmall : (H : Type) → List (DataW H) → Bool := fun _ ds => decide (uptoBulkAll ds ≤ 1048576)
def OpenSpec.upto (s : _root_.Go.ChangeSpec) : _root_.Go.OpenSpec := { _root_.Go.OpenSpec.ofChange s with cond := some uptoSmall }

/-- 'gimmallaw16.Nodes', WHERE WHAT IT READS IS OF BULK AT MOST 1048576: true; the input reads as it did. -/
def nodesUptoRow : OpenClaim := { program := "ytaapoiikbolgnaa", sum := "f45c90e12650421108979f42abc834fe4f9a3af6ca9bda110126742f7fcf8d1d", func := "gimmal/gimmallaw16.Nodes", spec := "nodes", inPlace := ["slices.overlaps[int]"], unfollowed := true, recurses := true, apart := false, narrowed := true }
def NodesUptoSaid : Prop := nodesUptoRow.holds Try.pinned (OpenSpec.upto nodesSpec)

/-- 'gimmallaw16.NodeForms', WHERE WHAT IT READS IS OF BULK AT MOST 1048576: true; the input reads as it did. -/
def nodeFormsUptoRow : OpenClaim := { program := "ytaapoiikbolgnaa", sum := "f45c90e12650421108979f42abc834fe4f9a3af6ca9bda110126742f7fcf8d1d", func := "gimmal/gimmallaw16.NodeForms", spec := "nodeForms", inPlace := ["slices.overlaps[int]"], unfollowed := true, recurses := true, apart := false, narrowed := true }
def NodeFormsUptoSaid : Prop := nodeFormsUptoRow.holds Try.pinned (OpenSpec.upto nodeFormsSpec)

/-- 'gimmallaw16.NodeNew', WHERE WHAT IT READS IS OF BULK AT MOST 1048576: true; the input reads as it did. -/
def nodeNewUptoRow : OpenClaim := { program := "ytaapoiikbolgnaa", sum := "f45c90e12650421108979f42abc834fe4f9a3af6ca9bda110126742f7fcf8d1d", func := "gimmal/gimmallaw16.NodeNew", spec := "nodeNew", inPlace := ["slices.overlaps[int]"], unfollowed := true, recurses := true, apart := false, narrowed := true }
def NodeNewUptoSaid : Prop := nodeNewUptoRow.holds Try.pinned (OpenSpec.upto nodeNewSpec)

/-- 'gimmallaw16.NodeDown', WHERE WHAT IT READS IS OF BULK AT MOST 1048576: true; the input reads as it did. -/
def nodeDownUptoRow : OpenClaim := { program := "ytaapoiikbolgnaa", sum := "f45c90e12650421108979f42abc834fe4f9a3af6ca9bda110126742f7fcf8d1d", func := "gimmal/gimmallaw16.NodeDown", spec := "nodeDown", inPlace := ["slices.overlaps[int]"], unfollowed := true, recurses := true, apart := false, narrowed := true }
def NodeDownUptoSaid : Prop := nodeDownUptoRow.holds Try.pinned (OpenSpec.upto nodeDownSpec)

/-- 'gimmallaw11.Ages', WHERE WHAT IT READS IS OF BULK AT MOST 1048576: true; the input reads as it did. -/
def agesUptoRow : OpenClaim := { program := "ytaapoiikbolgnaa", sum := "f45c90e12650421108979f42abc834fe4f9a3af6ca9bda110126742f7fcf8d1d", func := "gimmal/gimmallaw11.Ages", spec := "ages", inPlace := ["slices.overlaps[int]"], unfollowed := true, recurses := true, apart := false, narrowed := true }
def AgesUptoSaid : Prop := agesUptoRow.holds Try.pinned (OpenSpec.upto agesSpec)

/-- 'gimmallaw11.AgeKeeps', WHERE WHAT IT READS IS OF BULK AT MOST 1048576: true; the input reads as it did. -/
def ageKeepsUptoRow : OpenClaim := { program := "ytaapoiikbolgnaa", sum := "f45c90e12650421108979f42abc834fe4f9a3af6ca9bda110126742f7fcf8d1d", func := "gimmal/gimmallaw11.AgeKeeps", spec := "ageKeeps", inPlace := ["slices.overlaps[int]"], unfollowed := true, recurses := true, apart := false, narrowed := true }
def AgeKeepsUptoSaid : Prop := ageKeepsUptoRow.holds Try.pinned (OpenSpec.upto ageKeepsSpec)

/-- 'gimmallaw11.AgeAll', WHERE WHAT IT READS IS OF BULK AT MOST 1048576: true; the input reads as it did. -/
def ageAllUptoRow : OpenClaim := { program := "ytaapoiikbolgnaa", sum := "f45c90e12650421108979f42abc834fe4f9a3af6ca9bda110126742f7fcf8d1d", func := "gimmal/gimmallaw11.AgeAll", spec := "ageAll", inPlace := ["slices.overlaps[int]"], unfollowed := true, recurses := true, apart := false, narrowed := true }
def AgeAllUptoSaid : Prop := ageAllUptoRow.holds Try.pinned (OpenSpec.upto ageAllSpec)

/-- 'gimmallaw11.AgeHeard', WHERE WHAT IT READS IS OF BULK AT MOST 1048576: true; the input reads as it did. -/
def ageHeardUptoRow : OpenClaim := { program := "ytaapoiikbolgnaa", sum := "f45c90e12650421108979f42abc834fe4f9a3af6ca9bda110126742f7fcf8d1d", func := "gimmal/gimmallaw11.AgeHeard", spec := "ageHeard", inPlace := ["slices.overlaps[int]"], unfollowed := true, recurses := true, apart := false, narrowed := true }
def AgeHeardUptoSaid : Prop := ageHeardUptoRow.holds Try.pinned (OpenSpec.upto ageHeardSpec)

end Rows
end Go.Proofs.Ytaapoiikbolgnaa
