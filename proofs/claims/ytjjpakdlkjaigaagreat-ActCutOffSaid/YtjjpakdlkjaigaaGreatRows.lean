/-
  No cell of these rows narrows 'for every input' (looked for: loops, veiled, ifaces, maps, wideKeys, modest, calm, conditions, laid).
  DERIVED. THE GIVEN ROWS OF THIS SEAT. 8 by the template 'for every input the law returns true; each argument reads behind the call as it read before'; 0 by the template 'total and deterministic' (their statements: YtjjpakdlkjaigaaGreatTotals.lean).
  GIVEN WITH THE SEED: the statements are not yours to turn. If you find one false, say at which input.
  Laid BY PROGRAM, IN A SANDBOX (cutbox-rows.mjs): the forced cells as the released guide's own fill.sh prints them over the translation aa3a494222633c05… (all of the seat's roots in one cut). By AI agents, Wed Nov 11 2026. No macro, syntax, notation, axiom, sorry.
-/
import Derived.Test.YtjjpakdlkjaigaaGreatChecked
import GoSem.Claim
import GoSem.ClaimJoined
import GoSem.ClaimMapViews
import Derived.JoinedTies
import Derived.KernelRfl
namespace Go.Proofs.YtjjpakdlkjaigaaGreat
/- THE CELL 'sum', in the pinned program and in every row, IS THE sha256 OF THE DUMP (.gsa) THAT YtjjpakdlkjaigaaGreatProg.lean LOADS. Nothing in Lean hashes anything: it is a label: what it is worth is what the hold of that sum in a sandbox is worth. -/
noncomputable def Tryz.pinned : Pinned := { name := "ytjjpakdlkjaigaagreat", sum := "aa3a494222633c056ebbb2ba1ef2667d79dd6ac1156e9a3300e8ec64a7c85420", checked := Tryz.checked }
namespace Rows
def none {H : Type} : Left H := { results := [], args := [] }

/-- 'gimmallaw24.Acts': WHATEVER THE INPUT: true; the input reads as it did. -/
def actsSpec : ChangeSpec := { name := "acts", fn := fun _ => fun
  | [d1, d2] => { results := [.lit (.bool true)], args := [d1, d2] }
  | _ => none }
def actsRow : OpenClaim := { program := "ytjjpakdlkjaigaagreat", sum := "aa3a494222633c056ebbb2ba1ef2667d79dd6ac1156e9a3300e8ec64a7c85420", func := "gimmal/gimmallaw24.Acts", spec := "acts", inPlace := ["slices.overlaps[int]", "slices.overlaps[gimmal/api.Peer]", "slices.overlaps[gimmal/api.Item]", "slices.overlaps[gimmal/api.Cut]"], unfollowed := true, recurses := true, apart := false }
def ActsSaid : Prop := actsRow.holds Tryz.pinned (OpenSpec.ofChange actsSpec)

/-- ITS FALSE NEIGHBOUR: 'it returns false'. Refute it at one input. -/
def actsWrong : ChangeSpec := { name := "acts", fn := fun _ => fun
  | [d1, d2] => { results := [.lit (.bool false)], args := [d1, d2] }
  | _ => none }
def ActsWrongFalsely : Prop := actsRow.holds Tryz.pinned (OpenSpec.ofChange actsWrong)

/-- 'gimmallaw24.ActForms': WHATEVER THE INPUT: true; the input reads as it did. -/
def actFormsSpec : ChangeSpec := { name := "actForms", fn := fun _ => fun
  | [d1, d2] => { results := [.lit (.bool true)], args := [d1, d2] }
  | _ => none }
def actFormsRow : OpenClaim := { program := "ytjjpakdlkjaigaagreat", sum := "aa3a494222633c056ebbb2ba1ef2667d79dd6ac1156e9a3300e8ec64a7c85420", func := "gimmal/gimmallaw24.ActForms", spec := "actForms", inPlace := ["slices.overlaps[int]", "slices.overlaps[gimmal/api.Peer]", "slices.overlaps[gimmal/api.Item]", "slices.overlaps[gimmal/api.Cut]"], unfollowed := true, recurses := true, apart := false }
def ActFormsSaid : Prop := actFormsRow.holds Tryz.pinned (OpenSpec.ofChange actFormsSpec)

/-- ITS FALSE NEIGHBOUR: 'it returns false'. Refute it at one input. -/
def actFormsWrong : ChangeSpec := { name := "actForms", fn := fun _ => fun
  | [d1, d2] => { results := [.lit (.bool false)], args := [d1, d2] }
  | _ => none }
def ActFormsWrongFalsely : Prop := actFormsRow.holds Tryz.pinned (OpenSpec.ofChange actFormsWrong)

/-- 'gimmallaw24.ActDown': WHATEVER THE INPUT: true; the input reads as it did. -/
def actDownSpec : ChangeSpec := { name := "actDown", fn := fun _ => fun
  | [d1, d2, d3, d4, d5] => { results := [.lit (.bool true)], args := [d1, d2, d3, d4, d5] }
  | _ => none }
def actDownRow : OpenClaim := { program := "ytjjpakdlkjaigaagreat", sum := "aa3a494222633c056ebbb2ba1ef2667d79dd6ac1156e9a3300e8ec64a7c85420", func := "gimmal/gimmallaw24.ActDown", spec := "actDown", inPlace := ["slices.overlaps[int]", "slices.overlaps[gimmal/api.Peer]", "slices.overlaps[gimmal/api.Item]", "slices.overlaps[gimmal/api.Cut]"], unfollowed := true, recurses := true, apart := false }
def ActDownSaid : Prop := actDownRow.holds Tryz.pinned (OpenSpec.ofChange actDownSpec)

/-- ITS FALSE NEIGHBOUR: 'it returns false'. Refute it at one input. -/
def actDownWrong : ChangeSpec := { name := "actDown", fn := fun _ => fun
  | [d1, d2, d3, d4, d5] => { results := [.lit (.bool false)], args := [d1, d2, d3, d4, d5] }
  | _ => none }
def ActDownWrongFalsely : Prop := actDownRow.holds Tryz.pinned (OpenSpec.ofChange actDownWrong)

/-- 'gimmallaw24.ActCutOff': WHATEVER THE INPUT: true; the input reads as it did. -/
def actCutOffSpec : ChangeSpec := { name := "actCutOff", fn := fun _ => fun
  | [d1, d2] => { results := [.lit (.bool true)], args := [d1, d2] }
  | _ => none }
def actCutOffRow : OpenClaim := { program := "ytjjpakdlkjaigaagreat", sum := "aa3a494222633c056ebbb2ba1ef2667d79dd6ac1156e9a3300e8ec64a7c85420", func := "gimmal/gimmallaw24.ActCutOff", spec := "actCutOff", inPlace := ["slices.overlaps[int]", "slices.overlaps[gimmal/api.Peer]", "slices.overlaps[gimmal/api.Item]", "slices.overlaps[gimmal/api.Cut]"], unfollowed := true, recurses := true, apart := false }
def ActCutOffSaid : Prop := actCutOffRow.holds Tryz.pinned (OpenSpec.ofChange actCutOffSpec)

/-- ITS FALSE NEIGHBOUR: 'it returns false'. Refute it at one input. -/
def actCutOffWrong : ChangeSpec := { name := "actCutOff", fn := fun _ => fun
  | [d1, d2] => { results := [.lit (.bool false)], args := [d1, d2] }
  | _ => none }
def ActCutOffWrongFalsely : Prop := actCutOffRow.holds Tryz.pinned (OpenSpec.ofChange actCutOffWrong)

/-- 'gimmallaw24.ActLost': WHATEVER THE INPUT: true; the input reads as it did. -/
def actLostSpec : ChangeSpec := { name := "actLost", fn := fun _ => fun
  | [d1, d2] => { results := [.lit (.bool true)], args := [d1, d2] }
  | _ => none }
def actLostRow : OpenClaim := { program := "ytjjpakdlkjaigaagreat", sum := "aa3a494222633c056ebbb2ba1ef2667d79dd6ac1156e9a3300e8ec64a7c85420", func := "gimmal/gimmallaw24.ActLost", spec := "actLost", inPlace := ["slices.overlaps[int]", "slices.overlaps[gimmal/api.Peer]", "slices.overlaps[gimmal/api.Item]", "slices.overlaps[gimmal/api.Cut]"], unfollowed := true, recurses := true, apart := false }
def ActLostSaid : Prop := actLostRow.holds Tryz.pinned (OpenSpec.ofChange actLostSpec)

/-- ITS FALSE NEIGHBOUR: 'it returns false'. Refute it at one input. -/
def actLostWrong : ChangeSpec := { name := "actLost", fn := fun _ => fun
  | [d1, d2] => { results := [.lit (.bool false)], args := [d1, d2] }
  | _ => none }
def ActLostWrongFalsely : Prop := actLostRow.holds Tryz.pinned (OpenSpec.ofChange actLostWrong)

/-- 'gimmallaw24.ActOne': WHATEVER THE INPUT: true; the input reads as it did. -/
def actOneSpec : ChangeSpec := { name := "actOne", fn := fun _ => fun
  | [d1, d2] => { results := [.lit (.bool true)], args := [d1, d2] }
  | _ => none }
def actOneRow : OpenClaim := { program := "ytjjpakdlkjaigaagreat", sum := "aa3a494222633c056ebbb2ba1ef2667d79dd6ac1156e9a3300e8ec64a7c85420", func := "gimmal/gimmallaw24.ActOne", spec := "actOne", inPlace := ["slices.overlaps[int]", "slices.overlaps[gimmal/api.Peer]", "slices.overlaps[gimmal/api.Item]", "slices.overlaps[gimmal/api.Cut]"], unfollowed := true, recurses := true, apart := false }
def ActOneSaid : Prop := actOneRow.holds Tryz.pinned (OpenSpec.ofChange actOneSpec)

/-- ITS FALSE NEIGHBOUR: 'it returns false'. Refute it at one input. -/
def actOneWrong : ChangeSpec := { name := "actOne", fn := fun _ => fun
  | [d1, d2] => { results := [.lit (.bool false)], args := [d1, d2] }
  | _ => none }
def ActOneWrongFalsely : Prop := actOneRow.holds Tryz.pinned (OpenSpec.ofChange actOneWrong)

/-- 'gimmallaw24.ActPuts': WHATEVER THE INPUT: true; the input reads as it did. -/
def actPutsSpec : ChangeSpec := { name := "actPuts", fn := fun _ => fun
  | [d1, d2, d3, d4] => { results := [.lit (.bool true)], args := [d1, d2, d3, d4] }
  | _ => none }
def actPutsRow : OpenClaim := { program := "ytjjpakdlkjaigaagreat", sum := "aa3a494222633c056ebbb2ba1ef2667d79dd6ac1156e9a3300e8ec64a7c85420", func := "gimmal/gimmallaw24.ActPuts", spec := "actPuts", inPlace := ["slices.overlaps[int]", "slices.overlaps[gimmal/api.Peer]", "slices.overlaps[gimmal/api.Item]", "slices.overlaps[gimmal/api.Cut]"], unfollowed := true, recurses := true, apart := false }
def ActPutsSaid : Prop := actPutsRow.holds Tryz.pinned (OpenSpec.ofChange actPutsSpec)

/-- ITS FALSE NEIGHBOUR: 'it returns false'. Refute it at one input. -/
def actPutsWrong : ChangeSpec := { name := "actPuts", fn := fun _ => fun
  | [d1, d2, d3, d4] => { results := [.lit (.bool false)], args := [d1, d2, d3, d4] }
  | _ => none }
def ActPutsWrongFalsely : Prop := actPutsRow.holds Tryz.pinned (OpenSpec.ofChange actPutsWrong)

/-- 'gimmallaw24.ActTicks': WHATEVER THE INPUT: true; the input reads as it did. -/
def actTicksSpec : ChangeSpec := { name := "actTicks", fn := fun _ => fun
  | [d1, d2] => { results := [.lit (.bool true)], args := [d1, d2] }
  | _ => none }
def actTicksRow : OpenClaim := { program := "ytjjpakdlkjaigaagreat", sum := "aa3a494222633c056ebbb2ba1ef2667d79dd6ac1156e9a3300e8ec64a7c85420", func := "gimmal/gimmallaw24.ActTicks", spec := "actTicks", inPlace := ["slices.overlaps[int]", "slices.overlaps[gimmal/api.Peer]", "slices.overlaps[gimmal/api.Item]", "slices.overlaps[gimmal/api.Cut]"], unfollowed := true, recurses := true, apart := false }
def ActTicksSaid : Prop := actTicksRow.holds Tryz.pinned (OpenSpec.ofChange actTicksSpec)

/-- ITS FALSE NEIGHBOUR: 'it returns false'. Refute it at one input. -/
def actTicksWrong : ChangeSpec := { name := "actTicks", fn := fun _ => fun
  | [d1, d2] => { results := [.lit (.bool false)], args := [d1, d2] }
  | _ => none }
def ActTicksWrongFalsely : Prop := actTicksRow.holds Tryz.pinned (OpenSpec.ofChange actTicksWrong)

/- THE SECOND FORM. 'bulk': how many values and letters a reading holds, each counted each time it is reached (what is shared counts as often as it is met; a slice's spare places count too). A statement '..UptoSaid' is the law's where the arguments, and the package variables that the reading takes, are together of bulk at most 1048576: NARROWER than '..Said'. Prove '..Said' where nothing that the law and all that it calls make is longer than what came in: it says more and counts as full. Else prove '..UptoSaid'. A law counts once. -/
mutual
def uptoBulk {H : Type} : DataW H → Nat
  | .lit (.string bytes) => bytes.length + 1
  | .lit _ => 1
  | .nil => 1
  | .ptr d => uptoBulk d + 1
  | .slice elems spare => uptoBulkAll elems + uptoBulkAll spare + 1
  | .agg parts => uptoBulkAll parts + 1
  | .iface _ d => uptoBulk d + 1
  | .map entries => uptoBulkEntries entries + 1
  | .held _ => 1
def uptoBulkAll {H : Type} : List (DataW H) → Nat
  | [] => 0
  | d :: r => uptoBulk d + uptoBulkAll r
def uptoBulkEntries {H : Type} : List (Lit × DataW H) → Nat
  | [] => 0
  | x :: r => uptoBulkEntry x + uptoBulkEntries r
def uptoBulkEntry {H : Type} : Lit × DataW H → Nat
  | (.string bytes, d) => bytes.length + uptoBulk d + 1
  | (_, d) => uptoBulk d + 1
 end
def uptoSmall : (H : Type) → List (DataW H) → Bool := fun _ ds => decide (uptoBulkAll ds ≤ 1048576)
def OpenSpec.upto (s : _root_.Go.ChangeSpec) : _root_.Go.OpenSpec := { _root_.Go.OpenSpec.ofChange s with cond := some uptoSmall }

/-- 'gimmallaw24.Acts', WHERE WHAT IT READS IS OF BULK AT MOST 1048576: true; the input reads as it did. -/
def actsUptoRow : OpenClaim := { program := "ytjjpakdlkjaigaagreat", sum := "aa3a494222633c056ebbb2ba1ef2667d79dd6ac1156e9a3300e8ec64a7c85420", func := "gimmal/gimmallaw24.Acts", spec := "acts", inPlace := ["slices.overlaps[int]", "slices.overlaps[gimmal/api.Peer]", "slices.overlaps[gimmal/api.Item]", "slices.overlaps[gimmal/api.Cut]"], unfollowed := true, recurses := true, apart := false, narrowed := true }
def ActsUptoSaid : Prop := actsUptoRow.holds Tryz.pinned (OpenSpec.upto actsSpec)

/-- 'gimmallaw24.ActForms', WHERE WHAT IT READS IS OF BULK AT MOST 1048576: true; the input reads as it did. -/
def actFormsUptoRow : OpenClaim := { program := "ytjjpakdlkjaigaagreat", sum := "aa3a494222633c056ebbb2ba1ef2667d79dd6ac1156e9a3300e8ec64a7c85420", func := "gimmal/gimmallaw24.ActForms", spec := "actForms", inPlace := ["slices.overlaps[int]", "slices.overlaps[gimmal/api.Peer]", "slices.overlaps[gimmal/api.Item]", "slices.overlaps[gimmal/api.Cut]"], unfollowed := true, recurses := true, apart := false, narrowed := true }
def ActFormsUptoSaid : Prop := actFormsUptoRow.holds Tryz.pinned (OpenSpec.upto actFormsSpec)

/-- 'gimmallaw24.ActDown', WHERE WHAT IT READS IS OF BULK AT MOST 1048576: true; the input reads as it did. -/
def actDownUptoRow : OpenClaim := { program := "ytjjpakdlkjaigaagreat", sum := "aa3a494222633c056ebbb2ba1ef2667d79dd6ac1156e9a3300e8ec64a7c85420", func := "gimmal/gimmallaw24.ActDown", spec := "actDown", inPlace := ["slices.overlaps[int]", "slices.overlaps[gimmal/api.Peer]", "slices.overlaps[gimmal/api.Item]", "slices.overlaps[gimmal/api.Cut]"], unfollowed := true, recurses := true, apart := false, narrowed := true }
def ActDownUptoSaid : Prop := actDownUptoRow.holds Tryz.pinned (OpenSpec.upto actDownSpec)

/-- 'gimmallaw24.ActCutOff', WHERE WHAT IT READS IS OF BULK AT MOST 1048576: true; the input reads as it did. -/
def actCutOffUptoRow : OpenClaim := { program := "ytjjpakdlkjaigaagreat", sum := "aa3a494222633c056ebbb2ba1ef2667d79dd6ac1156e9a3300e8ec64a7c85420", func := "gimmal/gimmallaw24.ActCutOff", spec := "actCutOff", inPlace := ["slices.overlaps[int]", "slices.overlaps[gimmal/api.Peer]", "slices.overlaps[gimmal/api.Item]", "slices.overlaps[gimmal/api.Cut]"], unfollowed := true, recurses := true, apart := false, narrowed := true }
def ActCutOffUptoSaid : Prop := actCutOffUptoRow.holds Tryz.pinned (OpenSpec.upto actCutOffSpec)

/-- 'gimmallaw24.ActLost', WHERE WHAT IT READS IS OF BULK AT MOST 1048576: true; the input reads as it did. -/
def actLostUptoRow : OpenClaim := { program := "ytjjpakdlkjaigaagreat", sum := "aa3a494222633c056ebbb2ba1ef2667d79dd6ac1156e9a3300e8ec64a7c85420", func := "gimmal/gimmallaw24.ActLost", spec := "actLost", inPlace := ["slices.overlaps[int]", "slices.overlaps[gimmal/api.Peer]", "slices.overlaps[gimmal/api.Item]", "slices.overlaps[gimmal/api.Cut]"], unfollowed := true, recurses := true, apart := false, narrowed := true }
def ActLostUptoSaid : Prop := actLostUptoRow.holds Tryz.pinned (OpenSpec.upto actLostSpec)

/-- 'gimmallaw24.ActOne', WHERE WHAT IT READS IS OF BULK AT MOST 1048576: true; the input reads as it did. -/
def actOneUptoRow : OpenClaim := { program := "ytjjpakdlkjaigaagreat", sum := "aa3a494222633c056ebbb2ba1ef2667d79dd6ac1156e9a3300e8ec64a7c85420", func := "gimmal/gimmallaw24.ActOne", spec := "actOne", inPlace := ["slices.overlaps[int]", "slices.overlaps[gimmal/api.Peer]", "slices.overlaps[gimmal/api.Item]", "slices.overlaps[gimmal/api.Cut]"], unfollowed := true, recurses := true, apart := false, narrowed := true }
def ActOneUptoSaid : Prop := actOneUptoRow.holds Tryz.pinned (OpenSpec.upto actOneSpec)

/-- 'gimmallaw24.ActPuts', WHERE WHAT IT READS IS OF BULK AT MOST 1048576: true; the input reads as it did. -/
def actPutsUptoRow : OpenClaim := { program := "ytjjpakdlkjaigaagreat", sum := "aa3a494222633c056ebbb2ba1ef2667d79dd6ac1156e9a3300e8ec64a7c85420", func := "gimmal/gimmallaw24.ActPuts", spec := "actPuts", inPlace := ["slices.overlaps[int]", "slices.overlaps[gimmal/api.Peer]", "slices.overlaps[gimmal/api.Item]", "slices.overlaps[gimmal/api.Cut]"], unfollowed := true, recurses := true, apart := false, narrowed := true }
def ActPutsUptoSaid : Prop := actPutsUptoRow.holds Tryz.pinned (OpenSpec.upto actPutsSpec)

/-- 'gimmallaw24.ActTicks', WHERE WHAT IT READS IS OF BULK AT MOST 1048576: true; the input reads as it did. -/
def actTicksUptoRow : OpenClaim := { program := "ytjjpakdlkjaigaagreat", sum := "aa3a494222633c056ebbb2ba1ef2667d79dd6ac1156e9a3300e8ec64a7c85420", func := "gimmal/gimmallaw24.ActTicks", spec := "actTicks", inPlace := ["slices.overlaps[int]", "slices.overlaps[gimmal/api.Peer]", "slices.overlaps[gimmal/api.Item]", "slices.overlaps[gimmal/api.Cut]"], unfollowed := true, recurses := true, apart := false, narrowed := true }
def ActTicksUptoSaid : Prop := actTicksUptoRow.holds Tryz.pinned (OpenSpec.upto actTicksSpec)

end Rows
end Go.Proofs.YtjjpakdlkjaigaaGreat
