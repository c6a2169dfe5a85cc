/-
  No cell of these rows narrows 'for every input' (looked for: loops, veiled, ifaces, maps, wideKeys, modest, calm, conditions, laid).
  DERIVED. THE GIVEN ROWS OF THIS SEAT. 7 by the template 'for every input the law returns true; each argument reads behind the call as it read before'; 0 by the template 'total and deterministic' (their statements: YtmhieddhmebfhaaTotals.lean).
  GIVEN WITH THE SEED: the statements are not yours to turn. If you find one false, say at which input.
  Laid BY PROGRAM, IN A SANDBOX (cutbox-rows.mjs): the forced cells as the released guide's own fill.sh prints them over the translation 394834bd36254ab3… (all of the seat's roots in one cut). By AI agents, Wed Nov 11 2026. No macro, syntax, notation, axiom, sorry.
-/
import Derived.Test.YtmhieddhmebfhaaChecked
import GoSem.Claim
import GoSem.ClaimJoined
import GoSem.ClaimMapViews
import Derived.JoinedTies
import Derived.KernelRfl
namespace Go.Proofs.Ytmhieddhmebfhaa
/- THE CELL 'sum', in the pinned program and in every row, IS THE sha256 OF THE DUMP (.gsa) THAT YtmhieddhmebfhaaProg.lean LOADS. Nothing in Lean hashes anything: it is a label: what it is worth is what the hold of that sum in a sandbox is worth. -/
noncomputable def Try.pinned : Pinned := { name := "ytmhieddhmebfhaa", sum := "394834bd36254ab3067d5aff61df4cf7badc9b27af64f26bffd7868688db31b7", checked := Try.checked }
namespace Rows
def none {H : Type} : Left H := { results := [], args := [] }

/-- 'gimmallaw19.TickForms': WHATEVER THE INPUT: true; the input reads as it did. -/
def tickFormsSpec : ChangeSpec := { name := "tickForms", fn := fun _ => fun
  | [d1, d2] => { results := [.lit (.bool true)], args := [d1, d2] }
  | _ => none }
def tickFormsRow : OpenClaim := { program := "ytmhieddhmebfhaa", sum := "394834bd36254ab3067d5aff61df4cf7badc9b27af64f26bffd7868688db31b7", func := "gimmal/gimmallaw19.TickForms", spec := "tickForms", inPlace := ["slices.overlaps[int]"], unfollowed := true, recurses := true, apart := false }
def TickFormsSaid : Prop := tickFormsRow.holds Try.pinned (OpenSpec.ofChange tickFormsSpec)

/-- ITS FALSE NEIGHBOUR: 'it returns false'. Refute it at one input. -/
def tickFormsWrong : ChangeSpec := { name := "tickForms", fn := fun _ => fun
  | [d1, d2] => { results := [.lit (.bool false)], args := [d1, d2] }
  | _ => none }
def TickFormsWrongFalsely : Prop := tickFormsRow.holds Try.pinned (OpenSpec.ofChange tickFormsWrong)

/-- 'gimmallaw19.TickGreets': WHATEVER THE INPUT: true; the input reads as it did. -/
def tickGreetsSpec : ChangeSpec := { name := "tickGreets", fn := fun _ => fun
  | [d] => { results := [.lit (.bool true)], args := [d] }
  | _ => none }
def tickGreetsRow : OpenClaim := { program := "ytmhieddhmebfhaa", sum := "394834bd36254ab3067d5aff61df4cf7badc9b27af64f26bffd7868688db31b7", func := "gimmal/gimmallaw19.TickGreets", spec := "tickGreets", inPlace := ["slices.overlaps[int]"], unfollowed := true, recurses := true, apart := false }
def TickGreetsSaid : Prop := tickGreetsRow.holds Try.pinned (OpenSpec.ofChange tickGreetsSpec)

/-- ITS FALSE NEIGHBOUR: 'it returns false'. Refute it at one input. -/
def tickGreetsWrong : ChangeSpec := { name := "tickGreets", fn := fun _ => fun
  | [d] => { results := [.lit (.bool false)], args := [d] }
  | _ => none }
def TickGreetsWrongFalsely : Prop := tickGreetsRow.holds Try.pinned (OpenSpec.ofChange tickGreetsWrong)

/-- 'gimmallaw19.TickAlone': WHATEVER THE INPUT: true; the input reads as it did. -/
def tickAloneSpec : ChangeSpec := { name := "tickAlone", fn := fun _ => fun
  | [d1, d2] => { results := [.lit (.bool true)], args := [d1, d2] }
  | _ => none }
def tickAloneRow : OpenClaim := { program := "ytmhieddhmebfhaa", sum := "394834bd36254ab3067d5aff61df4cf7badc9b27af64f26bffd7868688db31b7", func := "gimmal/gimmallaw19.TickAlone", spec := "tickAlone", inPlace := ["slices.overlaps[int]"], unfollowed := true, recurses := true, apart := false }
def TickAloneSaid : Prop := tickAloneRow.holds Try.pinned (OpenSpec.ofChange tickAloneSpec)

/-- ITS FALSE NEIGHBOUR: 'it returns false'. Refute it at one input. -/
def tickAloneWrong : ChangeSpec := { name := "tickAlone", fn := fun _ => fun
  | [d1, d2] => { results := [.lit (.bool false)], args := [d1, d2] }
  | _ => none }
def TickAloneWrongFalsely : Prop := tickAloneRow.holds Try.pinned (OpenSpec.ofChange tickAloneWrong)

/-- 'gimmallaw19.TickTwice': WHATEVER THE INPUT: true; the input reads as it did. -/
def tickTwiceSpec : ChangeSpec := { name := "tickTwice", fn := fun _ => fun
  | [d1, d2, d3] => { results := [.lit (.bool true)], args := [d1, d2, d3] }
  | _ => none }
def tickTwiceRow : OpenClaim := { program := "ytmhieddhmebfhaa", sum := "394834bd36254ab3067d5aff61df4cf7badc9b27af64f26bffd7868688db31b7", func := "gimmal/gimmallaw19.TickTwice", spec := "tickTwice", inPlace := ["slices.overlaps[int]"], unfollowed := true, recurses := true, apart := false }
def TickTwiceSaid : Prop := tickTwiceRow.holds Try.pinned (OpenSpec.ofChange tickTwiceSpec)

/-- ITS FALSE NEIGHBOUR: 'it returns false'. Refute it at one input. -/
def tickTwiceWrong : ChangeSpec := { name := "tickTwice", fn := fun _ => fun
  | [d1, d2, d3] => { results := [.lit (.bool false)], args := [d1, d2, d3] }
  | _ => none }
def TickTwiceWrongFalsely : Prop := tickTwiceRow.holds Try.pinned (OpenSpec.ofChange tickTwiceWrong)

/-- 'gimmallaw23.WorldForms': WHATEVER THE INPUT: true; the input reads as it did. -/
def worldFormsSpec : ChangeSpec := { name := "worldForms", fn := fun _ => fun
  | [d1, d2] => { results := [.lit (.bool true)], args := [d1, d2] }
  | _ => none }
def worldFormsRow : OpenClaim := { program := "ytmhieddhmebfhaa", sum := "394834bd36254ab3067d5aff61df4cf7badc9b27af64f26bffd7868688db31b7", func := "gimmal/gimmallaw23.WorldForms", spec := "worldForms", inPlace := ["slices.overlaps[int]"], unfollowed := true, recurses := true, apart := false }
def WorldFormsSaid : Prop := worldFormsRow.holds Try.pinned (OpenSpec.ofChange worldFormsSpec)

/-- ITS FALSE NEIGHBOUR: 'it returns false'. Refute it at one input. -/
def worldFormsWrong : ChangeSpec := { name := "worldForms", fn := fun _ => fun
  | [d1, d2] => { results := [.lit (.bool false)], args := [d1, d2] }
  | _ => none }
def WorldFormsWrongFalsely : Prop := worldFormsRow.holds Try.pinned (OpenSpec.ofChange worldFormsWrong)

/-- 'gimmallaw23.WorldFull': WHATEVER THE INPUT: true; the input reads as it did. -/
def worldFullSpec : ChangeSpec := { name := "worldFull", fn := fun _ => fun
  | [d1, d2] => { results := [.lit (.bool true)], args := [d1, d2] }
  | _ => none }
def worldFullRow : OpenClaim := { program := "ytmhieddhmebfhaa", sum := "394834bd36254ab3067d5aff61df4cf7badc9b27af64f26bffd7868688db31b7", func := "gimmal/gimmallaw23.WorldFull", spec := "worldFull", inPlace := ["slices.overlaps[int]"], unfollowed := true, recurses := true, apart := false }
def WorldFullSaid : Prop := worldFullRow.holds Try.pinned (OpenSpec.ofChange worldFullSpec)

/-- ITS FALSE NEIGHBOUR: 'it returns false'. Refute it at one input. -/
def worldFullWrong : ChangeSpec := { name := "worldFull", fn := fun _ => fun
  | [d1, d2] => { results := [.lit (.bool false)], args := [d1, d2] }
  | _ => none }
def WorldFullWrongFalsely : Prop := worldFullRow.holds Try.pinned (OpenSpec.ofChange worldFullWrong)

/-- 'gimmallaw23.WorldNew': WHATEVER THE INPUT: true; the input reads as it did. -/
def worldNewSpec : ChangeSpec := { name := "worldNew", fn := fun _ => fun
  | [d] => { results := [.lit (.bool true)], args := [d] }
  | _ => none }
def worldNewRow : OpenClaim := { program := "ytmhieddhmebfhaa", sum := "394834bd36254ab3067d5aff61df4cf7badc9b27af64f26bffd7868688db31b7", func := "gimmal/gimmallaw23.WorldNew", spec := "worldNew", inPlace := ["slices.overlaps[int]"], unfollowed := true, recurses := true, apart := false }
def WorldNewSaid : Prop := worldNewRow.holds Try.pinned (OpenSpec.ofChange worldNewSpec)

/-- ITS FALSE NEIGHBOUR: 'it returns false'. Refute it at one input. -/
def worldNewWrong : ChangeSpec := { name := "worldNew", fn := fun _ => fun
  | [d] => { results := [.lit (.bool false)], args := [d] }
  | _ => none }
def WorldNewWrongFalsely : Prop := worldNewRow.holds Try.pinned (OpenSpec.ofChange worldNewWrong)

/- THE SECOND FORM. 'bulk': how many values and letters a reading holds, each counted each time it is reached (what is shared counts as often as it is met; a slice's spare places count too). A statement '..UptoSaid' is the law's where the arguments, and the package variables that the reading takes, are together of bulk at most 1048576: NARROWER than '..Said'. Prove '..Said' where nothing that the law and all that it calls make is longer than what came in: it says more and counts as full. Else prove '..UptoSaid'. A law counts once. -/
mutual
def uptoBulk {H : Type} : DataW H → Nat
  | .lit (.string bytes) => bytes.length + 1
  | .lit _ => 1
  | .nil => 1
  | .ptr d => uptoBulk d + 1
  | .slice elems spare => uptoBulkAll elems + uptoBulkAll spare + 1
  | .agg parts => uptoBulkAll parts + 1
  | .iface _ d => uptoBulk d + 1
  | .map entries => uptoBulkEntries entries + 1
  | .held _ => 1
def uptoBulkAll {H : Type} : List (DataW H) → Nat
  | [] => 0
  | d :: r => uptoBulk d + uptoBulkAll r
def uptoBulkEntries {H : Type} : List (Lit × DataW H) → Nat
  | [] => 0
  | x :: r => uptoBulkEntry x + uptoBulkEntries r
def uptoBulkEntry {H : Type} : Lit × DataW H → Nat
  | (.string bytes, d) => bytes.length + uptoBulk d + 1
  | (_, d) => uptoBulk d + 1
 end
def uptoSmall : (H : Type) → List (DataW H) → Bool := fun _ ds => decide (uptoBulkAll ds ≤ 1048576)
def OpenSpec.upto (s : _root_.Go.ChangeSpec) : _root_.Go.OpenSpec := { _root_.Go.OpenSpec.ofChange s with cond := some uptoSmall }

/-- 'gimmallaw19.TickForms', WHERE WHAT IT READS IS OF BULK AT MOST 1048576: true; the input reads as it did. -/
def tickFormsUptoRow : OpenClaim := { program := "ytmhieddhmebfhaa", sum := "394834bd36254ab3067d5aff61df4cf7badc9b27af64f26bffd7868688db31b7", func := "gimmal/gimmallaw19.TickForms", spec := "tickForms", inPlace := ["slices.overlaps[int]"], unfollowed := true, recurses := true, apart := false, narrowed := true }
def TickFormsUptoSaid : Prop := tickFormsUptoRow.holds Try.pinned (OpenSpec.upto tickFormsSpec)

/-- 'gimmallaw19.TickGreets', WHERE WHAT IT READS IS OF BULK AT MOST 1048576: true; the input reads as it did. -/
def tickGreetsUptoRow : OpenClaim := { program := "ytmhieddhmebfhaa", sum := "394834bd36254ab3067d5aff61df4cf7badc9b27af64f26bffd7868688db31b7", func := "gimmal/gimmallaw19.TickGreets", spec := "tickGreets", inPlace := ["slices.overlaps[int]"], unfollowed := true, recurses := true, apart := false, narrowed := true }
def TickGreetsUptoSaid : Prop := tickGreetsUptoRow.holds Try.pinned (OpenSpec.upto tickGreetsSpec)

/-- 'gimmallaw19.TickAlone', WHERE WHAT IT READS IS OF BULK AT MOST 1048576: true; the input reads as it did. -/
def tickAloneUptoRow : OpenClaim := { program := "ytmhieddhmebfhaa", sum := "394834bd36254ab3067d5aff61df4cf7badc9b27af64f26bffd7868688db31b7", func := "gimmal/gimmallaw19.TickAlone", spec := "tickAlone", inPlace := ["slices.overlaps[int]"], unfollowed := true, recurses := true, apart := false, narrowed := true }
def TickAloneUptoSaid : Prop := tickAloneUptoRow.holds Try.pinned (OpenSpec.upto tickAloneSpec)

/-- 'gimmallaw19.TickTwice', WHERE WHAT IT READS IS OF BULK AT MOST 1048576: true; the input reads as it did. -/
def tickTwiceUptoRow : OpenClaim := { program := "ytmhieddhmebfhaa", sum := "394834bd36254ab3067d5aff61df4cf7badc9b27af64f26bffd7868688db31b7", func := "gimmal/gimmallaw19.TickTwice", spec := "tickTwice", inPlace := ["slices.overlaps[int]"], unfollowed := true, recurses := true, apart := false, narrowed := true }
def TickTwiceUptoSaid : Prop := tickTwiceUptoRow.holds Try.pinned (OpenSpec.upto tickTwiceSpec)

/-- 'gimmallaw23.WorldForms', WHERE WHAT IT READS IS OF BULK AT MOST 1048576: true; the input reads as it did. -/
def worldFormsUptoRow : OpenClaim := { program := "ytmhieddhmebfhaa", sum := "394834bd36254ab3067d5aff61df4cf7badc9b27af64f26bffd7868688db31b7", func := "gimmal/gimmallaw23.WorldForms", spec := "worldForms", inPlace := ["slices.overlaps[int]"], unfollowed := true, recurses := true, apart := false, narrowed := true }
def WorldFormsUptoSaid : Prop := worldFormsUptoRow.holds Try.pinned (OpenSpec.upto worldFormsSpec)

/-- 'gimmallaw23.WorldFull', WHERE WHAT IT READS IS OF BULK AT MOST 1048576: true; the input reads as it did. -/
def worldFullUptoRow : OpenClaim := { program := "ytmhieddhmebfhaa", sum := "394834bd36254ab3067d5aff61df4cf7badc9b27af64f26bffd7868688db31b7", func := "gimmal/gimmallaw23.WorldFull", spec := "worldFull", inPlace := ["slices.overlaps[int]"], unfollowed := true, recurses := true, apart := false, narrowed := true }
def WorldFullUptoSaid : Prop := worldFullUptoRow.holds Try.pinned (OpenSpec.upto worldFullSpec)

/-- 'gimmallaw23.WorldNew', WHERE WHAT IT READS IS OF BULK AT MOST 1048576: true; the input reads as it did. -/
def worldNewUptoRow : OpenClaim := { program := "ytmhieddhmebfhaa", sum := "394834bd36254ab3067d5aff61df4cf7badc9b27af64f26bffd7868688db31b7", func := "gimmal/gimmallaw23.WorldNew", spec := "worldNew", inPlace := ["slices.overlaps[int]"], unfollowed := true, recurses := true, apart := false, narrowed := true }
def WorldNewUptoSaid : Prop := worldNewUptoRow.holds Try.pinned (OpenSpec.upto worldNewSpec)

end Rows
end Go.Proofs.Ytmhieddhmebfhaa
