/-
  No cell of these rows narrows 'for every input' (looked for: loops, veiled, ifaces, maps, wideKeys, modest, calm, conditions, laid).
  DERIVED. THE GIVEN ROWS OF THIS SEAT. 4 by the template 'for every input the law returns true; each argument reads behind the call as it read before'; 0 by the template 'total and deterministic' (their statements: YtmhieddhmebfhaaGreatTotals.lean).
  GIVEN WITH THE SEED: the statements are not yours to turn. If you find one false, say at which input.
  Laid BY PROGRAM, IN A SANDBOX (cutbox-rows.mjs): the forced cells as the released guide's own fill.sh prints them over the translation adc4e49c6a61f5ff… (all of the seat's roots in one cut). By AI agents, Wed Nov 11 2026. No macro, syntax, notation, axiom, sorry.
-/
import Derived.Test.YtmhieddhmebfhaaGreatChecked
import GoSem.Claim
import GoSem.ClaimJoined
import GoSem.ClaimMapViews
import Derived.JoinedTies
import Derived.KernelRfl
namespace Go.Proofs.YtmhieddhmebfhaaGreat
/- THE CELL 'sum', in the pinned program and in every row, IS THE sha256 OF THE DUMP (.gsa) THAT YtmhieddhmebfhaaGreatProg.lean LOADS. Nothing in Lean hashes anything: it is a label: what it is worth is what the hold of that sum in a sandbox is worth. -/
noncomputable def Tryz.pinned : Pinned := { name := "ytmhieddhmebfhaagreat", sum := "adc4e49c6a61f5ff47226fdb4099068f4d1141effc85a13de7c3fce15d002d74", checked := Tryz.checked }
namespace Rows
def none {H : Type} : Left H := { results := [], args := [] }

/-- 'gimmallaw19.Ticks': WHATEVER THE INPUT: true; the input reads as it did. -/
def ticksSpec : ChangeSpec := { name := "ticks", fn := fun _ => fun
  | [d] => { results := [.lit (.bool true)], args := [d] }
  | _ => none }
def ticksRow : OpenClaim := { program := "ytmhieddhmebfhaagreat", sum := "adc4e49c6a61f5ff47226fdb4099068f4d1141effc85a13de7c3fce15d002d74", func := "gimmal/gimmallaw19.Ticks", spec := "ticks", inPlace := ["slices.overlaps[int]"], unfollowed := true, recurses := true, apart := false }
def TicksSaid : Prop := ticksRow.holds Tryz.pinned (OpenSpec.ofChange ticksSpec)

/-- ITS FALSE NEIGHBOUR: 'it returns false'. Refute it at one input. -/
def ticksWrong : ChangeSpec := { name := "ticks", fn := fun _ => fun
  | [d] => { results := [.lit (.bool false)], args := [d] }
  | _ => none }
def TicksWrongFalsely : Prop := ticksRow.holds Tryz.pinned (OpenSpec.ofChange ticksWrong)

/-- 'gimmallaw23.Worlds': WHATEVER THE INPUT: true; the input reads as it did. -/
def worldsSpec : ChangeSpec := { name := "worlds", fn := fun _ => fun
  | [d1, d2, d3] => { results := [.lit (.bool true)], args := [d1, d2, d3] }
  | _ => none }
def worldsRow : OpenClaim := { program := "ytmhieddhmebfhaagreat", sum := "adc4e49c6a61f5ff47226fdb4099068f4d1141effc85a13de7c3fce15d002d74", func := "gimmal/gimmallaw23.Worlds", spec := "worlds", inPlace := ["slices.overlaps[int]"], unfollowed := true, recurses := true, apart := false }
def WorldsSaid : Prop := worldsRow.holds Tryz.pinned (OpenSpec.ofChange worldsSpec)

/-- ITS FALSE NEIGHBOUR: 'it returns false'. Refute it at one input. -/
def worldsWrong : ChangeSpec := { name := "worlds", fn := fun _ => fun
  | [d1, d2, d3] => { results := [.lit (.bool false)], args := [d1, d2, d3] }
  | _ => none }
def WorldsWrongFalsely : Prop := worldsRow.holds Tryz.pinned (OpenSpec.ofChange worldsWrong)

/-- 'gimmallaw23.WorldSend': WHATEVER THE INPUT: true; the input reads as it did. -/
def worldSendSpec : ChangeSpec := { name := "worldSend", fn := fun _ => fun
  | [d1, d2, d3] => { results := [.lit (.bool true)], args := [d1, d2, d3] }
  | _ => none }
def worldSendRow : OpenClaim := { program := "ytmhieddhmebfhaagreat", sum := "adc4e49c6a61f5ff47226fdb4099068f4d1141effc85a13de7c3fce15d002d74", func := "gimmal/gimmallaw23.WorldSend", spec := "worldSend", inPlace := ["slices.overlaps[int]"], unfollowed := true, recurses := true, apart := false }
def WorldSendSaid : Prop := worldSendRow.holds Tryz.pinned (OpenSpec.ofChange worldSendSpec)

/-- ITS FALSE NEIGHBOUR: 'it returns false'. Refute it at one input. -/
def worldSendWrong : ChangeSpec := { name := "worldSend", fn := fun _ => fun
  | [d1, d2, d3] => { results := [.lit (.bool false)], args := [d1, d2, d3] }
  | _ => none }
def WorldSendWrongFalsely : Prop := worldSendRow.holds Tryz.pinned (OpenSpec.ofChange worldSendWrong)

/-- 'gimmallaw23.WorldPacket': WHATEVER THE INPUT: true; the input reads as it did. -/
def worldPacketSpec : ChangeSpec := { name := "worldPacket", fn := fun _ => fun
  | [d1, d2] => { results := [.lit (.bool true)], args := [d1, d2] }
  | _ => none }
def worldPacketRow : OpenClaim := { program := "ytmhieddhmebfhaagreat", sum := "adc4e49c6a61f5ff47226fdb4099068f4d1141effc85a13de7c3fce15d002d74", func := "gimmal/gimmallaw23.WorldPacket", spec := "worldPacket", inPlace := ["slices.overlaps[int]"], unfollowed := true, recurses := true, apart := false }
def WorldPacketSaid : Prop := worldPacketRow.holds Tryz.pinned (OpenSpec.ofChange worldPacketSpec)

/-- ITS FALSE NEIGHBOUR: 'it returns false'. Refute it at one input. -/
def worldPacketWrong : ChangeSpec := { name := "worldPacket", fn := fun _ => fun
  | [d1, d2] => { results := [.lit (.bool false)], args := [d1, d2] }
  | _ => none }
def WorldPacketWrongFalsely : Prop := worldPacketRow.holds Tryz.pinned (OpenSpec.ofChange worldPacketWrong)

/- THE SECOND FORM. 'bulk': how many values and letters a reading holds, each counted each time it is reached (what is shared counts as often as it is met; a slice's spare places count too). A statement '..UptoSaid' is the law's where the arguments, and the package variables that the reading takes, are together of bulk at most 1048576: NARROWER than '..Said'. Prove '..Said' where nothing that the law and all that it calls make is longer than what came in: it says more and counts as full. Else prove '..UptoSaid'. A law counts once. -/
mutual
def uptoBulk {H : Type} : DataW H → Nat
  | .lit (.string bytes) => bytes.length + 1
  | .lit _ => 1
  | .nil => 1
  | .ptr d => uptoBulk d + 1
  | .slice elems spare => uptoBulkAll elems + uptoBulkAll spare + 1
  | .agg parts => uptoBulkAll parts + 1
  | .iface _ d => uptoBulk d + 1
  | .map entries => uptoBulkEntries entries + 1
  | .held _ => 1
def uptoBulkAll {H : Type} : List (DataW H) → Nat
  | [] => 0
  | d :: r => uptoBulk d + uptoBulkAll r
def uptoBulkEntries {H : Type} : List (Lit × DataW H) → Nat
  | [] => 0
  | x :: r => uptoBulkEntry x + uptoBulkEntries r
def uptoBulkEntry {H : Type} : Lit × DataW H → Nat
  | (.string bytes, d) => bytes.length + uptoBulk d + 1
  | (_, d) => uptoBulk d + 1
 end
def uptoSmall : (H : Type) → List (DataW H) → Bool := fun _ ds => decide (uptoBulkAll ds ≤ 1048576)
def OpenSpec.upto (s : _root_.Go.ChangeSpec) : _root_.Go.OpenSpec := { _root_.Go.OpenSpec.ofChange s with cond := some uptoSmall }

/-- 'gimmallaw19.Ticks', WHERE WHAT IT READS IS OF BULK AT MOST 1048576: true; the input reads as it did. -/
def ticksUptoRow : OpenClaim := { program := "ytmhieddhmebfhaagreat", sum := "adc4e49c6a61f5ff47226fdb4099068f4d1141effc85a13de7c3fce15d002d74", func := "gimmal/gimmallaw19.Ticks", spec := "ticks", inPlace := ["slices.overlaps[int]"], unfollowed := true, recurses := true, apart := false, narrowed := true }
def TicksUptoSaid : Prop := ticksUptoRow.holds Tryz.pinned (OpenSpec.upto ticksSpec)

/-- 'gimmallaw23.Worlds', WHERE WHAT IT READS IS OF BULK AT MOST 1048576: true; the input reads as it did. -/
def worldsUptoRow : OpenClaim := { program := "ytmhieddhmebfhaagreat", sum := "adc4e49c6a61f5ff47226fdb4099068f4d1141effc85a13de7c3fce15d002d74", func := "gimmal/gimmallaw23.Worlds", spec := "worlds", inPlace := ["slices.overlaps[int]"], unfollowed := true, recurses := true, apart := false, narrowed := true }
def WorldsUptoSaid : Prop := worldsUptoRow.holds Tryz.pinned (OpenSpec.upto worldsSpec)

/-- 'gimmallaw23.WorldSend', WHERE WHAT IT READS IS OF BULK AT MOST 1048576: true; the input reads as it did. -/
def worldSendUptoRow : OpenClaim := { program := "ytmhieddhmebfhaagreat", sum := "adc4e49c6a61f5ff47226fdb4099068f4d1141effc85a13de7c3fce15d002d74", func := "gimmal/gimmallaw23.WorldSend", spec := "worldSend", inPlace := ["slices.overlaps[int]"], unfollowed := true, recurses := true, apart := false, narrowed := true }
def WorldSendUptoSaid : Prop := worldSendUptoRow.holds Tryz.pinned (OpenSpec.upto worldSendSpec)

/-- 'gimmallaw23.WorldPacket', WHERE WHAT IT READS IS OF BULK AT MOST 1048576: true; the input reads as it did. -/
def worldPacketUptoRow : OpenClaim := { program := "ytmhieddhmebfhaagreat", sum := "adc4e49c6a61f5ff47226fdb4099068f4d1141effc85a13de7c3fce15d002d74", func := "gimmal/gimmallaw23.WorldPacket", spec := "worldPacket", inPlace := ["slices.overlaps[int]"], unfollowed := true, recurses := true, apart := false, narrowed := true }
def WorldPacketUptoSaid : Prop := worldPacketUptoRow.holds Tryz.pinned (OpenSpec.upto worldPacketSpec)

end Rows
end Go.Proofs.YtmhieddhmebfhaaGreat
