/-
  No cell of these rows narrows 'for every input' (looked for: loops, veiled, ifaces, maps, wideKeys, modest, calm, conditions, laid).
  DERIVED. THE GIVEN ROWS OF THIS SEAT. 12 by the template 'for every input the law returns true; each argument reads behind the call as it read before'; 0 by the template 'total and deterministic' (their statements: YtmgccphapkmmeaaTotals.lean).
  GIVEN WITH THE SEED: the statements are not yours to turn. If you find one false, say at which input.
  Laid BY PROGRAM, IN A SANDBOX (cutbox-rows.mjs): the forced cells as the released guide's own fill.sh prints them over the translation eddc4913daebcd7d… (all of the seat's roots in one cut). By AI agents, Wed Nov 11 2026. No macro, syntax, notation, axiom, sorry.
-/
import Derived.Test.YtmgccphapkmmeaaChecked
import GoSem.Claim
import GoSem.ClaimJoined
import GoSem.ClaimMapViews
import Derived.JoinedTies
import Derived.KernelRfl
namespace Go.Proofs.Ytmgccphapkmmeaa
/- THE CELL 'sum', in the pinned program and in every row, IS THE sha256 OF THE DUMP (.gsa) THAT YtmgccphapkmmeaaProg.lean LOADS. Nothing in Lean hashes anything: it is a label: what it is worth is what the hold of that sum in a sandbox is worth. -/
noncomputable def Try.pinned : Pinned := { name := "ytmgccphapkmmeaa", sum := "eddc4913daebcd7d9b0c71b7c745916b43131208783a899516d885dc10ebab17", checked := Try.checked }
namespace Rows
def none {H : Type} : Left H := { results := [], args := [] }

/-- 'gimmallaw12.Msgs': WHATEVER THE INPUT: true; the input reads as it did. -/
def msgsSpec : ChangeSpec := { name := "msgs", fn := fun _ => fun
  | [d] => { results := [.lit (.bool true)], args := [d] }
  | _ => none }
def msgsRow : OpenClaim := { program := "ytmgccphapkmmeaa", sum := "eddc4913daebcd7d9b0c71b7c745916b43131208783a899516d885dc10ebab17", func := "gimmal/gimmallaw12.Msgs", spec := "msgs", apart := false }
def MsgsSaid : Prop := msgsRow.holds Try.pinned (OpenSpec.ofChange msgsSpec)

/-- ITS FALSE NEIGHBOUR: 'it returns false'. Refute it at one input. -/
def msgsWrong : ChangeSpec := { name := "msgs", fn := fun _ => fun
  | [d] => { results := [.lit (.bool false)], args := [d] }
  | _ => none }
def MsgsWrongFalsely : Prop := msgsRow.holds Try.pinned (OpenSpec.ofChange msgsWrong)

/-- 'gimmallaw12.MsgForms': WHATEVER THE INPUT: true; the input reads as it did. -/
def msgFormsSpec : ChangeSpec := { name := "msgForms", fn := fun _ => fun
  | [d1, d2] => { results := [.lit (.bool true)], args := [d1, d2] }
  | _ => none }
def msgFormsRow : OpenClaim := { program := "ytmgccphapkmmeaa", sum := "eddc4913daebcd7d9b0c71b7c745916b43131208783a899516d885dc10ebab17", func := "gimmal/gimmallaw12.MsgForms", spec := "msgForms", apart := false }
def MsgFormsSaid : Prop := msgFormsRow.holds Try.pinned (OpenSpec.ofChange msgFormsSpec)

/-- ITS FALSE NEIGHBOUR: 'it returns false'. Refute it at one input. -/
def msgFormsWrong : ChangeSpec := { name := "msgForms", fn := fun _ => fun
  | [d1, d2] => { results := [.lit (.bool false)], args := [d1, d2] }
  | _ => none }
def MsgFormsWrongFalsely : Prop := msgFormsRow.holds Try.pinned (OpenSpec.ofChange msgFormsWrong)

/-- 'gimmallaw12.MsgEnds': WHATEVER THE INPUT: true; the input reads as it did. -/
def msgEndsSpec : ChangeSpec := { name := "msgEnds", fn := fun _ => fun
  | [d1, d2, d3] => { results := [.lit (.bool true)], args := [d1, d2, d3] }
  | _ => none }
def msgEndsRow : OpenClaim := { program := "ytmgccphapkmmeaa", sum := "eddc4913daebcd7d9b0c71b7c745916b43131208783a899516d885dc10ebab17", func := "gimmal/gimmallaw12.MsgEnds", spec := "msgEnds", apart := false }
def MsgEndsSaid : Prop := msgEndsRow.holds Try.pinned (OpenSpec.ofChange msgEndsSpec)

/-- ITS FALSE NEIGHBOUR: 'it returns false'. Refute it at one input. -/
def msgEndsWrong : ChangeSpec := { name := "msgEnds", fn := fun _ => fun
  | [d1, d2, d3] => { results := [.lit (.bool false)], args := [d1, d2, d3] }
  | _ => none }
def MsgEndsWrongFalsely : Prop := msgEndsRow.holds Try.pinned (OpenSpec.ofChange msgEndsWrong)

/-- 'gimmallaw13.Wires': WHATEVER THE INPUT: true; the input reads as it did. -/
def wiresSpec : ChangeSpec := { name := "wires", fn := fun _ => fun
  | [d1, d2] => { results := [.lit (.bool true)], args := [d1, d2] }
  | _ => none }
def wiresRow : OpenClaim := { program := "ytmgccphapkmmeaa", sum := "eddc4913daebcd7d9b0c71b7c745916b43131208783a899516d885dc10ebab17", func := "gimmal/gimmallaw13.Wires", spec := "wires", unfollowed := true, recurses := true, apart := false }
def WiresSaid : Prop := wiresRow.holds Try.pinned (OpenSpec.ofChange wiresSpec)

/-- ITS FALSE NEIGHBOUR: 'it returns false'. Refute it at one input. -/
def wiresWrong : ChangeSpec := { name := "wires", fn := fun _ => fun
  | [d1, d2] => { results := [.lit (.bool false)], args := [d1, d2] }
  | _ => none }
def WiresWrongFalsely : Prop := wiresRow.holds Try.pinned (OpenSpec.ofChange wiresWrong)

/-- 'gimmallaw13.WireForms': WHATEVER THE INPUT: true; the input reads as it did. -/
def wireFormsSpec : ChangeSpec := { name := "wireForms", fn := fun _ => fun
  | [d1, d2] => { results := [.lit (.bool true)], args := [d1, d2] }
  | _ => none }
def wireFormsRow : OpenClaim := { program := "ytmgccphapkmmeaa", sum := "eddc4913daebcd7d9b0c71b7c745916b43131208783a899516d885dc10ebab17", func := "gimmal/gimmallaw13.WireForms", spec := "wireForms", unfollowed := true, recurses := true, apart := false }
def WireFormsSaid : Prop := wireFormsRow.holds Try.pinned (OpenSpec.ofChange wireFormsSpec)

/-- ITS FALSE NEIGHBOUR: 'it returns false'. Refute it at one input. -/
def wireFormsWrong : ChangeSpec := { name := "wireForms", fn := fun _ => fun
  | [d1, d2] => { results := [.lit (.bool false)], args := [d1, d2] }
  | _ => none }
def WireFormsWrongFalsely : Prop := wireFormsRow.holds Try.pinned (OpenSpec.ofChange wireFormsWrong)

/-- 'gimmallaw13.WireUnlike': WHATEVER THE INPUT: true; the input reads as it did. -/
def wireUnlikeSpec : ChangeSpec := { name := "wireUnlike", fn := fun _ => fun
  | [d1, d2] => { results := [.lit (.bool true)], args := [d1, d2] }
  | _ => none }
def wireUnlikeRow : OpenClaim := { program := "ytmgccphapkmmeaa", sum := "eddc4913daebcd7d9b0c71b7c745916b43131208783a899516d885dc10ebab17", func := "gimmal/gimmallaw13.WireUnlike", spec := "wireUnlike", unfollowed := true, recurses := true, apart := false }
def WireUnlikeSaid : Prop := wireUnlikeRow.holds Try.pinned (OpenSpec.ofChange wireUnlikeSpec)

/-- ITS FALSE NEIGHBOUR: 'it returns false'. Refute it at one input. -/
def wireUnlikeWrong : ChangeSpec := { name := "wireUnlike", fn := fun _ => fun
  | [d1, d2] => { results := [.lit (.bool false)], args := [d1, d2] }
  | _ => none }
def WireUnlikeWrongFalsely : Prop := wireUnlikeRow.holds Try.pinned (OpenSpec.ofChange wireUnlikeWrong)

/-- 'gimmallaw13.WireSizes': WHATEVER THE INPUT: true; the input reads as it did. -/
def wireSizesSpec : ChangeSpec := { name := "wireSizes", fn := fun _ => fun
  | [d] => { results := [.lit (.bool true)], args := [d] }
  | _ => none }
def wireSizesRow : OpenClaim := { program := "ytmgccphapkmmeaa", sum := "eddc4913daebcd7d9b0c71b7c745916b43131208783a899516d885dc10ebab17", func := "gimmal/gimmallaw13.WireSizes", spec := "wireSizes", unfollowed := true, recurses := true, apart := false }
def WireSizesSaid : Prop := wireSizesRow.holds Try.pinned (OpenSpec.ofChange wireSizesSpec)

/-- ITS FALSE NEIGHBOUR: 'it returns false'. Refute it at one input. -/
def wireSizesWrong : ChangeSpec := { name := "wireSizes", fn := fun _ => fun
  | [d] => { results := [.lit (.bool false)], args := [d] }
  | _ => none }
def WireSizesWrongFalsely : Prop := wireSizesRow.holds Try.pinned (OpenSpec.ofChange wireSizesWrong)

/-- 'gimmallaw13.WireItem': WHATEVER THE INPUT: true; the input reads as it did. -/
def wireItemSpec : ChangeSpec := { name := "wireItem", fn := fun _ => fun
  | [d1, d2, d3, d4, d5] => { results := [.lit (.bool true)], args := [d1, d2, d3, d4, d5] }
  | _ => none }
def wireItemRow : OpenClaim := { program := "ytmgccphapkmmeaa", sum := "eddc4913daebcd7d9b0c71b7c745916b43131208783a899516d885dc10ebab17", func := "gimmal/gimmallaw13.WireItem", spec := "wireItem", unfollowed := true, recurses := true, apart := false }
def WireItemSaid : Prop := wireItemRow.holds Try.pinned (OpenSpec.ofChange wireItemSpec)

/-- ITS FALSE NEIGHBOUR: 'it returns false'. Refute it at one input. -/
def wireItemWrong : ChangeSpec := { name := "wireItem", fn := fun _ => fun
  | [d1, d2, d3, d4, d5] => { results := [.lit (.bool false)], args := [d1, d2, d3, d4, d5] }
  | _ => none }
def WireItemWrongFalsely : Prop := wireItemRow.holds Try.pinned (OpenSpec.ofChange wireItemWrong)

/-- 'gimmallaw14.Queues': WHATEVER THE INPUT: true; the input reads as it did. -/
def queuesSpec : ChangeSpec := { name := "queues", fn := fun _ => fun
  | [d1, d2, d3] => { results := [.lit (.bool true)], args := [d1, d2, d3] }
  | _ => none }
def queuesRow : OpenClaim := { program := "ytmgccphapkmmeaa", sum := "eddc4913daebcd7d9b0c71b7c745916b43131208783a899516d885dc10ebab17", func := "gimmal/gimmallaw14.Queues", spec := "queues", unfollowed := true, recurses := true, apart := false }
def QueuesSaid : Prop := queuesRow.holds Try.pinned (OpenSpec.ofChange queuesSpec)

/-- ITS FALSE NEIGHBOUR: 'it returns false'. Refute it at one input. -/
def queuesWrong : ChangeSpec := { name := "queues", fn := fun _ => fun
  | [d1, d2, d3] => { results := [.lit (.bool false)], args := [d1, d2, d3] }
  | _ => none }
def QueuesWrongFalsely : Prop := queuesRow.holds Try.pinned (OpenSpec.ofChange queuesWrong)

/-- 'gimmallaw14.QueueForms': WHATEVER THE INPUT: true; the input reads as it did. -/
def queueFormsSpec : ChangeSpec := { name := "queueForms", fn := fun _ => fun
  | [d1, d2] => { results := [.lit (.bool true)], args := [d1, d2] }
  | _ => none }
def queueFormsRow : OpenClaim := { program := "ytmgccphapkmmeaa", sum := "eddc4913daebcd7d9b0c71b7c745916b43131208783a899516d885dc10ebab17", func := "gimmal/gimmallaw14.QueueForms", spec := "queueForms", unfollowed := true, recurses := true, apart := false }
def QueueFormsSaid : Prop := queueFormsRow.holds Try.pinned (OpenSpec.ofChange queueFormsSpec)

/-- ITS FALSE NEIGHBOUR: 'it returns false'. Refute it at one input. -/
def queueFormsWrong : ChangeSpec := { name := "queueForms", fn := fun _ => fun
  | [d1, d2] => { results := [.lit (.bool false)], args := [d1, d2] }
  | _ => none }
def QueueFormsWrongFalsely : Prop := queueFormsRow.holds Try.pinned (OpenSpec.ofChange queueFormsWrong)

/-- 'gimmallaw14.QueueRow': WHATEVER THE INPUT: true; the input reads as it did. -/
def queueRowSpec : ChangeSpec := { name := "queueRow", fn := fun _ => fun
  | [d1, d2] => { results := [.lit (.bool true)], args := [d1, d2] }
  | _ => none }
def queueRowRow : OpenClaim := { program := "ytmgccphapkmmeaa", sum := "eddc4913daebcd7d9b0c71b7c745916b43131208783a899516d885dc10ebab17", func := "gimmal/gimmallaw14.QueueRow", spec := "queueRow", unfollowed := true, recurses := true, apart := false }
def QueueRowSaid : Prop := queueRowRow.holds Try.pinned (OpenSpec.ofChange queueRowSpec)

/-- ITS FALSE NEIGHBOUR: 'it returns false'. Refute it at one input. -/
def queueRowWrong : ChangeSpec := { name := "queueRow", fn := fun _ => fun
  | [d1, d2] => { results := [.lit (.bool false)], args := [d1, d2] }
  | _ => none }
def QueueRowWrongFalsely : Prop := queueRowRow.holds Try.pinned (OpenSpec.ofChange queueRowWrong)

/-- 'gimmallaw14.QueueAll': WHATEVER THE INPUT: true; the input reads as it did. -/
def queueAllSpec : ChangeSpec := { name := "queueAll", fn := fun _ => fun
  | [d1, d2] => { results := [.lit (.bool true)], args := [d1, d2] }
  | _ => none }
def queueAllRow : OpenClaim := { program := "ytmgccphapkmmeaa", sum := "eddc4913daebcd7d9b0c71b7c745916b43131208783a899516d885dc10ebab17", func := "gimmal/gimmallaw14.QueueAll", spec := "queueAll", unfollowed := true, recurses := true, apart := false }
def QueueAllSaid : Prop := queueAllRow.holds Try.pinned (OpenSpec.ofChange queueAllSpec)

/-- ITS FALSE NEIGHBOUR: 'it returns false'. Refute it at one input. -/
def queueAllWrong : ChangeSpec := { name := "queueAll", fn := fun _ => fun
  | [d1, d2] => { results := [.lit (.bool false)], args := [d1, d2] }
  | _ => none }
def QueueAllWrongFalsely : Prop := queueAllRow.holds Try.pinned (OpenSpec.ofChange queueAllWrong)

/- THE SECOND FORM. 'bulk': how many values and letters a reading holds, each counted each time it is reached (what is shared counts as often as it is met; a slice's spare places count too). A statement '..UptoSaid' is the law's where the arguments, and the package variables that the reading takes, are together of bulk at most 1048576: NARROWER than '..Said'. Prove '..Said' where nothing that the law and all that it calls make is longer than what came in: it says more and counts as full. Else prove '..UptoSaid'. A law counts once. -/
mutual
def uptoBulk {H : Type} : DataW H → Nat
  | .lit (.string bytes) => bytes.length + 1
  | .lit _ => 1
  | .nil => 1
  | .ptr d => uptoBulk d + 1
  | .slice elems spare => uptoBulkAll elems + uptoBulkAll spare + 1
  | .agg parts => uptoBulkAll parts + 1
  | .iface _ d => uptoBulk d + 1
  | .map entries => uptoBulkEntries entries + 1
  | .held _ => 1
def uptoBulkAll {H : Type} : List (DataW H) → Nat
  | [] => 0
  | d :: r => uptoBulk d + uptoBulkAll r
def uptoBulkEntries {H : Type} : List (Lit × DataW H) → Nat
  | [] => 0
  | x :: r => uptoBulkEntry x + uptoBulkEntries r
def uptoBulkEntry {H : Type} : Lit × DataW H → Nat
  | (.string bytes, d) => bytes.length + uptoBulk d + 1
  | (_, d) => uptoBulk d + 1
 end
def uptoSmall : (H : Type) → List (DataW H) → Bool := fun _ ds => decide (uptoBulkAll ds ≤ 1048576)
def OpenSpec.upto (s : _root_.Go.ChangeSpec) : _root_.Go.OpenSpec := { _root_.Go.OpenSpec.ofChange s with cond := some uptoSmall }

/-- 'gimmallaw12.Msgs', WHERE WHAT IT READS IS OF BULK AT MOST 1048576: true; the input reads as it did. -/
def msgsUptoRow : OpenClaim := { program := "ytmgccphapkmmeaa", sum := "eddc4913daebcd7d9b0c71b7c745916b43131208783a899516d885dc10ebab17", func := "gimmal/gimmallaw12.Msgs", spec := "msgs", apart := false, narrowed := true }
def MsgsUptoSaid : Prop := msgsUptoRow.holds Try.pinned (OpenSpec.upto msgsSpec)

/-- 'gimmallaw12.MsgForms', WHERE WHAT IT READS IS OF BULK AT MOST 1048576: true; the input reads as it did. -/
def msgFormsUptoRow : OpenClaim := { program := "ytmgccphapkmmeaa", sum := "eddc4913daebcd7d9b0c71b7c745916b43131208783a899516d885dc10ebab17", func := "gimmal/gimmallaw12.MsgForms", spec := "msgForms", apart := false, narrowed := true }
def MsgFormsUptoSaid : Prop := msgFormsUptoRow.holds Try.pinned (OpenSpec.upto msgFormsSpec)

/-- 'gimmallaw12.MsgEnds', WHERE WHAT IT READS IS OF BULK AT MOST 1048576: true; the input reads as it did. -/
def msgEndsUptoRow : OpenClaim := { program := "ytmgccphapkmmeaa", sum := "eddc4913daebcd7d9b0c71b7c745916b43131208783a899516d885dc10ebab17", func := "gimmal/gimmallaw12.MsgEnds", spec := "msgEnds", apart := false, narrowed := true }
def MsgEndsUptoSaid : Prop := msgEndsUptoRow.holds Try.pinned (OpenSpec.upto msgEndsSpec)

/-- 'gimmallaw13.Wires', WHERE WHAT IT READS IS OF BULK AT MOST 1048576: true; the input reads as it did. -/
def wiresUptoRow : OpenClaim := { program := "ytmgccphapkmmeaa", sum := "eddc4913daebcd7d9b0c71b7c745916b43131208783a899516d885dc10ebab17", func := "gimmal/gimmallaw13.Wires", spec := "wires", unfollowed := true, recurses := true, apart := false, narrowed := true }
def WiresUptoSaid : Prop := wiresUptoRow.holds Try.pinned (OpenSpec.upto wiresSpec)

/-- 'gimmallaw13.WireForms', WHERE WHAT IT READS IS OF BULK AT MOST 1048576: true; the input reads as it did. -/
def wireFormsUptoRow : OpenClaim := { program := "ytmgccphapkmmeaa", sum := "eddc4913daebcd7d9b0c71b7c745916b43131208783a899516d885dc10ebab17", func := "gimmal/gimmallaw13.WireForms", spec := "wireForms", unfollowed := true, recurses := true, apart := false, narrowed := true }
def WireFormsUptoSaid : Prop := wireFormsUptoRow.holds Try.pinned (OpenSpec.upto wireFormsSpec)

/-- 'gimmallaw13.WireUnlike', WHERE WHAT IT READS IS OF BULK AT MOST 1048576: true; the input reads as it did. -/
def wireUnlikeUptoRow : OpenClaim := { program := "ytmgccphapkmmeaa", sum := "eddc4913daebcd7d9b0c71b7c745916b43131208783a899516d885dc10ebab17", func := "gimmal/gimmallaw13.WireUnlike", spec := "wireUnlike", unfollowed := true, recurses := true, apart := false, narrowed := true }
def WireUnlikeUptoSaid : Prop := wireUnlikeUptoRow.holds Try.pinned (OpenSpec.upto wireUnlikeSpec)

/-- 'gimmallaw13.WireSizes', WHERE WHAT IT READS IS OF BULK AT MOST 1048576: true; the input reads as it did. -/
def wireSizesUptoRow : OpenClaim := { program := "ytmgccphapkmmeaa", sum := "eddc4913daebcd7d9b0c71b7c745916b43131208783a899516d885dc10ebab17", func := "gimmal/gimmallaw13.WireSizes", spec := "wireSizes", unfollowed := true, recurses := true, apart := false, narrowed := true }
def WireSizesUptoSaid : Prop := wireSizesUptoRow.holds Try.pinned (OpenSpec.upto wireSizesSpec)

/-- 'gimmallaw13.WireItem', WHERE WHAT IT READS IS OF BULK AT MOST 1048576: true; the input reads as it did. -/
def wireItemUptoRow : OpenClaim := { program := "ytmgccphapkmmeaa", sum := "eddc4913daebcd7d9b0c71b7c745916b43131208783a899516d885dc10ebab17", func := "gimmal/gimmallaw13.WireItem", spec := "wireItem", unfollowed := true, recurses := true, apart := false, narrowed := true }
def WireItemUptoSaid : Prop := wireItemUptoRow.holds Try.pinned (OpenSpec.upto wireItemSpec)

/-- 'gimmallaw14.Queues', WHERE WHAT IT READS IS OF BULK AT MOST 1048576: true; the input reads as it did. -/
def queuesUptoRow : OpenClaim := { program := "ytmgccphapkmmeaa", sum := "eddc4913daebcd7d9b0c71b7c745916b43131208783a899516d885dc10ebab17", func := "gimmal/gimmallaw14.Queues", spec := "queues", unfollowed := true, recurses := true, apart := false, narrowed := true }
def QueuesUptoSaid : Prop := queuesUptoRow.holds Try.pinned (OpenSpec.upto queuesSpec)

/-- 'gimmallaw14.QueueForms', WHERE WHAT IT READS IS OF BULK AT MOST 1048576: true; the input reads as it did. -/
def queueFormsUptoRow : OpenClaim := { program := "ytmgccphapkmmeaa", sum := "eddc4913daebcd7d9b0c71b7c745916b43131208783a899516d885dc10ebab17", func := "gimmal/gimmallaw14.QueueForms", spec := "queueForms", unfollowed := true, recurses := true, apart := false, narrowed := true }
def QueueFormsUptoSaid : Prop := queueFormsUptoRow.holds Try.pinned (OpenSpec.upto queueFormsSpec)

/-- 'gimmallaw14.QueueRow', WHERE WHAT IT READS IS OF BULK AT MOST 1048576: true; the input reads as it did. -/
def queueRowUptoRow : OpenClaim := { program := "ytmgccphapkmmeaa", sum := "eddc4913daebcd7d9b0c71b7c745916b43131208783a899516d885dc10ebab17", func := "gimmal/gimmallaw14.QueueRow", spec := "queueRow", unfollowed := true, recurses := true, apart := false, narrowed := true }
def QueueRowUptoSaid : Prop := queueRowUptoRow.holds Try.pinned (OpenSpec.upto queueRowSpec)

/-- 'gimmallaw14.QueueAll', WHERE WHAT IT READS IS OF BULK AT MOST 1048576: true; the input reads as it did. -/
def queueAllUptoRow : OpenClaim := { program := "ytmgccphapkmmeaa", sum := "eddc4913daebcd7d9b0c71b7c745916b43131208783a899516d885dc10ebab17", func := "gimmal/gimmallaw14.QueueAll", spec := "queueAll", unfollowed := true, recurses := true, apart := false, narrowed := true }
def QueueAllUptoSaid : Prop := queueAllUptoRow.holds Try.pinned (OpenSpec.upto queueAllSpec)

end Rows
end Go.Proofs.Ytmgccphapkmmeaa
