/-
  No cell of these rows narrows 'for every input' (looked for: loops, veiled, ifaces, maps, wideKeys, modest, calm, conditions, laid).
  DERIVED. THE GIVEN ROWS OF THIS SEAT. 18 by the template 'for every input the law returns true; each argument reads behind the call as it read before'; 0 by the template 'total and deterministic' (their statements: YtilmfhpoiejmfaaTotals.lean).
  GIVEN WITH THE SEED: the statements are not yours to turn. If you find one false, say at which input.
  Laid BY PROGRAM, IN A SANDBOX (cutbox-rows.mjs): the forced cells as the released guide's own fill.sh prints them over the translation e19e4d6ebb5c5554… (all of the seat's roots in one cut). By AI agents, Wed Nov 11 2026. No macro, syntax, notation, axiom, sorry.
-/
import Derived.Test.YtilmfhpoiejmfaaChecked
import GoSem.Claim
import GoSem.ClaimJoined
import GoSem.ClaimMapViews
import Derived.JoinedTies
import Derived.KernelRfl
namespace Go.Proofs.Ytilmfhpoiejmfaa
/- THE CELL 'sum', in the pinned program and in every row, IS THE sha256 OF THE DUMP (.gsa) THAT YtilmfhpoiejmfaaProg.lean LOADS. Nothing in Lean hashes anything: it is a label: what it is worth is what the hold of that sum in a sandbox is worth. -/
noncomputable def Try.pinned : Pinned := { name := "ytilmfhpoiejmfaa", sum := "e19e4d6ebb5c55546158e8ebce85372b08507e23fa38c52a5c6eef8f0da6ec8a", checked := Try.checked }
namespace Rows
def none {H : Type} : Left H := { results := [], args := [] }

/-- 'palatinelaw01.DiskArms': WHATEVER THE INPUT: true; the input reads as it did. -/
def diskArmsSpec : ChangeSpec := { name := "diskArms", fn := fun _ => fun
  | [d1, d2] => { results := [.lit (.bool true)], args := [d1, d2] }
  | _ => none }
def diskArmsRow : OpenClaim := { program := "ytilmfhpoiejmfaa", sum := "e19e4d6ebb5c55546158e8ebce85372b08507e23fa38c52a5c6eef8f0da6ec8a", func := "palatine/palatinelaw01.DiskArms", spec := "diskArms", inPlace := ["sync/atomic.StoreInt64", "sync/atomic.LoadInt64", "sync/atomic.AddInt64"], apart := false }
def DiskArmsSaid : Prop := diskArmsRow.holds Try.pinned (OpenSpec.ofChange diskArmsSpec)

/-- ITS FALSE NEIGHBOUR: 'it returns false'. Refute it at one input. -/
def diskArmsWrong : ChangeSpec := { name := "diskArms", fn := fun _ => fun
  | [d1, d2] => { results := [.lit (.bool false)], args := [d1, d2] }
  | _ => none }
def DiskArmsWrongFalsely : Prop := diskArmsRow.holds Try.pinned (OpenSpec.ofChange diskArmsWrong)

/-- 'palatinelaw01.DiskBack': WHATEVER THE INPUT: true; the input reads as it did. -/
def diskBackSpec : ChangeSpec := { name := "diskBack", fn := fun _ => fun
  | [d1, d2, d3, d4] => { results := [.lit (.bool true)], args := [d1, d2, d3, d4] }
  | _ => none }
def diskBackRow : OpenClaim := { program := "ytilmfhpoiejmfaa", sum := "e19e4d6ebb5c55546158e8ebce85372b08507e23fa38c52a5c6eef8f0da6ec8a", func := "palatine/palatinelaw01.DiskBack", spec := "diskBack", inPlace := ["sync/atomic.StoreInt64", "sync/atomic.LoadInt64", "sync/atomic.AddInt64"], apart := false }
def DiskBackSaid : Prop := diskBackRow.holds Try.pinned (OpenSpec.ofChange diskBackSpec)

/-- ITS FALSE NEIGHBOUR: 'it returns false'. Refute it at one input. -/
def diskBackWrong : ChangeSpec := { name := "diskBack", fn := fun _ => fun
  | [d1, d2, d3, d4] => { results := [.lit (.bool false)], args := [d1, d2, d3, d4] }
  | _ => none }
def DiskBackWrongFalsely : Prop := diskBackRow.holds Try.pinned (OpenSpec.ofChange diskBackWrong)

/-- 'palatinelaw01.DiskCrash': WHATEVER THE INPUT: true; the input reads as it did. -/
def diskCrashSpec : ChangeSpec := { name := "diskCrash", fn := fun _ => fun
  | [d1, d2, d3, d4] => { results := [.lit (.bool true)], args := [d1, d2, d3, d4] }
  | _ => none }
def diskCrashRow : OpenClaim := { program := "ytilmfhpoiejmfaa", sum := "e19e4d6ebb5c55546158e8ebce85372b08507e23fa38c52a5c6eef8f0da6ec8a", func := "palatine/palatinelaw01.DiskCrash", spec := "diskCrash", inPlace := ["sync/atomic.StoreInt64", "sync/atomic.LoadInt64", "sync/atomic.AddInt64"], apart := false }
def DiskCrashSaid : Prop := diskCrashRow.holds Try.pinned (OpenSpec.ofChange diskCrashSpec)

/-- ITS FALSE NEIGHBOUR: 'it returns false'. Refute it at one input. -/
def diskCrashWrong : ChangeSpec := { name := "diskCrash", fn := fun _ => fun
  | [d1, d2, d3, d4] => { results := [.lit (.bool false)], args := [d1, d2, d3, d4] }
  | _ => none }
def DiskCrashWrongFalsely : Prop := diskCrashRow.holds Try.pinned (OpenSpec.ofChange diskCrashWrong)

/-- 'palatinelaw01.DiskFlush': WHATEVER THE INPUT: true; the input reads as it did. -/
def diskFlushSpec : ChangeSpec := { name := "diskFlush", fn := fun _ => fun
  | [d1, d2] => { results := [.lit (.bool true)], args := [d1, d2] }
  | _ => none }
def diskFlushRow : OpenClaim := { program := "ytilmfhpoiejmfaa", sum := "e19e4d6ebb5c55546158e8ebce85372b08507e23fa38c52a5c6eef8f0da6ec8a", func := "palatine/palatinelaw01.DiskFlush", spec := "diskFlush", inPlace := ["sync/atomic.StoreInt64", "sync/atomic.LoadInt64", "sync/atomic.AddInt64"], apart := false }
def DiskFlushSaid : Prop := diskFlushRow.holds Try.pinned (OpenSpec.ofChange diskFlushSpec)

/-- ITS FALSE NEIGHBOUR: 'it returns false'. Refute it at one input. -/
def diskFlushWrong : ChangeSpec := { name := "diskFlush", fn := fun _ => fun
  | [d1, d2] => { results := [.lit (.bool false)], args := [d1, d2] }
  | _ => none }
def DiskFlushWrongFalsely : Prop := diskFlushRow.holds Try.pinned (OpenSpec.ofChange diskFlushWrong)

/-- 'palatinelaw01.DiskAgain': WHATEVER THE INPUT: true; the input reads as it did. -/
def diskAgainSpec : ChangeSpec := { name := "diskAgain", fn := fun _ => fun
  | [d1, d2, d3] => { results := [.lit (.bool true)], args := [d1, d2, d3] }
  | _ => none }
def diskAgainRow : OpenClaim := { program := "ytilmfhpoiejmfaa", sum := "e19e4d6ebb5c55546158e8ebce85372b08507e23fa38c52a5c6eef8f0da6ec8a", func := "palatine/palatinelaw01.DiskAgain", spec := "diskAgain", inPlace := ["sync/atomic.StoreInt64", "sync/atomic.LoadInt64", "sync/atomic.AddInt64"], apart := false }
def DiskAgainSaid : Prop := diskAgainRow.holds Try.pinned (OpenSpec.ofChange diskAgainSpec)

/-- ITS FALSE NEIGHBOUR: 'it returns false'. Refute it at one input. -/
def diskAgainWrong : ChangeSpec := { name := "diskAgain", fn := fun _ => fun
  | [d1, d2, d3] => { results := [.lit (.bool false)], args := [d1, d2, d3] }
  | _ => none }
def DiskAgainWrongFalsely : Prop := diskAgainRow.holds Try.pinned (OpenSpec.ofChange diskAgainWrong)

/-- 'palatinelaw01.DiskPlays': WHATEVER THE INPUT: true; the input reads as it did. -/
def diskPlaysSpec : ChangeSpec := { name := "diskPlays", fn := fun _ => fun
  | [d1, d2] => { results := [.lit (.bool true)], args := [d1, d2] }
  | _ => none }
def diskPlaysRow : OpenClaim := { program := "ytilmfhpoiejmfaa", sum := "e19e4d6ebb5c55546158e8ebce85372b08507e23fa38c52a5c6eef8f0da6ec8a", func := "palatine/palatinelaw01.DiskPlays", spec := "diskPlays", inPlace := ["sync/atomic.StoreInt64", "sync/atomic.LoadInt64", "sync/atomic.AddInt64"], apart := false }
def DiskPlaysSaid : Prop := diskPlaysRow.holds Try.pinned (OpenSpec.ofChange diskPlaysSpec)

/-- ITS FALSE NEIGHBOUR: 'it returns false'. Refute it at one input. -/
def diskPlaysWrong : ChangeSpec := { name := "diskPlays", fn := fun _ => fun
  | [d1, d2] => { results := [.lit (.bool false)], args := [d1, d2] }
  | _ => none }
def DiskPlaysWrongFalsely : Prop := diskPlaysRow.holds Try.pinned (OpenSpec.ofChange diskPlaysWrong)

/-- 'palatinelaw03.LogBack': WHATEVER THE INPUT: true; the input reads as it did. -/
def logBackSpec : ChangeSpec := { name := "logBack", fn := fun _ => fun
  | [d1, d2, d3] => { results := [.lit (.bool true)], args := [d1, d2, d3] }
  | _ => none }
def logBackRow : OpenClaim := { program := "ytilmfhpoiejmfaa", sum := "e19e4d6ebb5c55546158e8ebce85372b08507e23fa38c52a5c6eef8f0da6ec8a", func := "palatine/palatinelaw03.LogBack", spec := "logBack", inPlace := ["sync/atomic.StoreInt64", "sync/atomic.LoadInt64", "sync/atomic.AddInt64"], unfollowed := true, recurses := true, apart := false }
def LogBackSaid : Prop := logBackRow.holds Try.pinned (OpenSpec.ofChange logBackSpec)

/-- ITS FALSE NEIGHBOUR: 'it returns false'. Refute it at one input. -/
def logBackWrong : ChangeSpec := { name := "logBack", fn := fun _ => fun
  | [d1, d2, d3] => { results := [.lit (.bool false)], args := [d1, d2, d3] }
  | _ => none }
def LogBackWrongFalsely : Prop := logBackRow.holds Try.pinned (OpenSpec.ofChange logBackWrong)

/-- 'palatinelaw03.LogElder': WHATEVER THE INPUT: true; the input reads as it did. -/
def logElderSpec : ChangeSpec := { name := "logElder", fn := fun _ => fun
  | [d1, d2, d3] => { results := [.lit (.bool true)], args := [d1, d2, d3] }
  | _ => none }
def logElderRow : OpenClaim := { program := "ytilmfhpoiejmfaa", sum := "e19e4d6ebb5c55546158e8ebce85372b08507e23fa38c52a5c6eef8f0da6ec8a", func := "palatine/palatinelaw03.LogElder", spec := "logElder", inPlace := ["sync/atomic.StoreInt64", "sync/atomic.LoadInt64", "sync/atomic.AddInt64"], unfollowed := true, recurses := true, apart := false }
def LogElderSaid : Prop := logElderRow.holds Try.pinned (OpenSpec.ofChange logElderSpec)

/-- ITS FALSE NEIGHBOUR: 'it returns false'. Refute it at one input. -/
def logElderWrong : ChangeSpec := { name := "logElder", fn := fun _ => fun
  | [d1, d2, d3] => { results := [.lit (.bool false)], args := [d1, d2, d3] }
  | _ => none }
def LogElderWrongFalsely : Prop := logElderRow.holds Try.pinned (OpenSpec.ofChange logElderWrong)

/-- 'palatinelaw03.LogRoom': WHATEVER THE INPUT: true; the input reads as it did. -/
def logRoomSpec : ChangeSpec := { name := "logRoom", fn := fun _ => fun
  | [d1, d2] => { results := [.lit (.bool true)], args := [d1, d2] }
  | _ => none }
def logRoomRow : OpenClaim := { program := "ytilmfhpoiejmfaa", sum := "e19e4d6ebb5c55546158e8ebce85372b08507e23fa38c52a5c6eef8f0da6ec8a", func := "palatine/palatinelaw03.LogRoom", spec := "logRoom", inPlace := ["sync/atomic.StoreInt64", "sync/atomic.LoadInt64", "sync/atomic.AddInt64"], unfollowed := true, recurses := true, apart := false }
def LogRoomSaid : Prop := logRoomRow.holds Try.pinned (OpenSpec.ofChange logRoomSpec)

/-- ITS FALSE NEIGHBOUR: 'it returns false'. Refute it at one input. -/
def logRoomWrong : ChangeSpec := { name := "logRoom", fn := fun _ => fun
  | [d1, d2] => { results := [.lit (.bool false)], args := [d1, d2] }
  | _ => none }
def LogRoomWrongFalsely : Prop := logRoomRow.holds Try.pinned (OpenSpec.ofChange logRoomWrong)

/-- 'palatinelaw03.LogLasts': WHATEVER THE INPUT: true; the input reads as it did. -/
def logLastsSpec : ChangeSpec := { name := "logLasts", fn := fun _ => fun
  | [d1, d2] => { results := [.lit (.bool true)], args := [d1, d2] }
  | _ => none }
def logLastsRow : OpenClaim := { program := "ytilmfhpoiejmfaa", sum := "e19e4d6ebb5c55546158e8ebce85372b08507e23fa38c52a5c6eef8f0da6ec8a", func := "palatine/palatinelaw03.LogLasts", spec := "logLasts", inPlace := ["sync/atomic.StoreInt64", "sync/atomic.LoadInt64", "sync/atomic.AddInt64"], unfollowed := true, recurses := true, apart := false }
def LogLastsSaid : Prop := logLastsRow.holds Try.pinned (OpenSpec.ofChange logLastsSpec)

/-- ITS FALSE NEIGHBOUR: 'it returns false'. Refute it at one input. -/
def logLastsWrong : ChangeSpec := { name := "logLasts", fn := fun _ => fun
  | [d1, d2] => { results := [.lit (.bool false)], args := [d1, d2] }
  | _ => none }
def LogLastsWrongFalsely : Prop := logLastsRow.holds Try.pinned (OpenSpec.ofChange logLastsWrong)

/-- 'palatinelaw03.LogPlays': WHATEVER THE INPUT: true; the input reads as it did. -/
def logPlaysSpec : ChangeSpec := { name := "logPlays", fn := fun _ => fun
  | [d1, d2, d3, d4, d5] => { results := [.lit (.bool true)], args := [d1, d2, d3, d4, d5] }
  | _ => none }
def logPlaysRow : OpenClaim := { program := "ytilmfhpoiejmfaa", sum := "e19e4d6ebb5c55546158e8ebce85372b08507e23fa38c52a5c6eef8f0da6ec8a", func := "palatine/palatinelaw03.LogPlays", spec := "logPlays", inPlace := ["sync/atomic.StoreInt64", "sync/atomic.LoadInt64", "sync/atomic.AddInt64"], unfollowed := true, recurses := true, apart := false }
def LogPlaysSaid : Prop := logPlaysRow.holds Try.pinned (OpenSpec.ofChange logPlaysSpec)

/-- ITS FALSE NEIGHBOUR: 'it returns false'. Refute it at one input. -/
def logPlaysWrong : ChangeSpec := { name := "logPlays", fn := fun _ => fun
  | [d1, d2, d3, d4, d5] => { results := [.lit (.bool false)], args := [d1, d2, d3, d4, d5] }
  | _ => none }
def LogPlaysWrongFalsely : Prop := logPlaysRow.holds Try.pinned (OpenSpec.ofChange logPlaysWrong)

/-- 'palatinelaw04.TreeOrder': WHATEVER THE INPUT: true; the input reads as it did. -/
def treeOrderSpec : ChangeSpec := { name := "treeOrder", fn := fun _ => fun
  | [d] => { results := [.lit (.bool true)], args := [d] }
  | _ => none }
def treeOrderRow : OpenClaim := { program := "ytilmfhpoiejmfaa", sum := "e19e4d6ebb5c55546158e8ebce85372b08507e23fa38c52a5c6eef8f0da6ec8a", func := "palatine/palatinelaw04.TreeOrder", spec := "treeOrder", inPlace := ["slices.overlaps[palatine/tree.item[string]]", "slices.overlaps[palatine/tree.item[*palatine/tree.node]]"], unfollowed := true, recurses := true, apart := false }
def TreeOrderSaid : Prop := treeOrderRow.holds Try.pinned (OpenSpec.ofChange treeOrderSpec)

/-- ITS FALSE NEIGHBOUR: 'it returns false'. Refute it at one input. -/
def treeOrderWrong : ChangeSpec := { name := "treeOrder", fn := fun _ => fun
  | [d] => { results := [.lit (.bool false)], args := [d] }
  | _ => none }
def TreeOrderWrongFalsely : Prop := treeOrderRow.holds Try.pinned (OpenSpec.ofChange treeOrderWrong)

/-- 'palatinelaw04.TreeTurned': WHATEVER THE INPUT: true; the input reads as it did. -/
def treeTurnedSpec : ChangeSpec := { name := "treeTurned", fn := fun _ => fun
  | [d] => { results := [.lit (.bool true)], args := [d] }
  | _ => none }
def treeTurnedRow : OpenClaim := { program := "ytilmfhpoiejmfaa", sum := "e19e4d6ebb5c55546158e8ebce85372b08507e23fa38c52a5c6eef8f0da6ec8a", func := "palatine/palatinelaw04.TreeTurned", spec := "treeTurned", inPlace := ["slices.overlaps[palatine/tree.item[string]]", "slices.overlaps[palatine/tree.item[*palatine/tree.node]]"], unfollowed := true, recurses := true, apart := false }
def TreeTurnedSaid : Prop := treeTurnedRow.holds Try.pinned (OpenSpec.ofChange treeTurnedSpec)

/-- ITS FALSE NEIGHBOUR: 'it returns false'. Refute it at one input. -/
def treeTurnedWrong : ChangeSpec := { name := "treeTurned", fn := fun _ => fun
  | [d] => { results := [.lit (.bool false)], args := [d] }
  | _ => none }
def TreeTurnedWrongFalsely : Prop := treeTurnedRow.holds Try.pinned (OpenSpec.ofChange treeTurnedWrong)

/-- 'palatinelaw04.TreeCuts': WHATEVER THE INPUT: true; the input reads as it did. -/
def treeCutsSpec : ChangeSpec := { name := "treeCuts", fn := fun _ => fun
  | [d1, d2] => { results := [.lit (.bool true)], args := [d1, d2] }
  | _ => none }
def treeCutsRow : OpenClaim := { program := "ytilmfhpoiejmfaa", sum := "e19e4d6ebb5c55546158e8ebce85372b08507e23fa38c52a5c6eef8f0da6ec8a", func := "palatine/palatinelaw04.TreeCuts", spec := "treeCuts", inPlace := ["slices.overlaps[palatine/tree.item[string]]", "slices.overlaps[palatine/tree.item[*palatine/tree.node]]"], unfollowed := true, recurses := true, apart := false }
def TreeCutsSaid : Prop := treeCutsRow.holds Try.pinned (OpenSpec.ofChange treeCutsSpec)

/-- ITS FALSE NEIGHBOUR: 'it returns false'. Refute it at one input. -/
def treeCutsWrong : ChangeSpec := { name := "treeCuts", fn := fun _ => fun
  | [d1, d2] => { results := [.lit (.bool false)], args := [d1, d2] }
  | _ => none }
def TreeCutsWrongFalsely : Prop := treeCutsRow.holds Try.pinned (OpenSpec.ofChange treeCutsWrong)

/-- 'palatinelaw04.TreeLen': WHATEVER THE INPUT: true; the input reads as it did. -/
def treeLenSpec : ChangeSpec := { name := "treeLen", fn := fun _ => fun
  | [d1, d2] => { results := [.lit (.bool true)], args := [d1, d2] }
  | _ => none }
def treeLenRow : OpenClaim := { program := "ytilmfhpoiejmfaa", sum := "e19e4d6ebb5c55546158e8ebce85372b08507e23fa38c52a5c6eef8f0da6ec8a", func := "palatine/palatinelaw04.TreeLen", spec := "treeLen", inPlace := ["slices.overlaps[palatine/tree.item[string]]", "slices.overlaps[palatine/tree.item[*palatine/tree.node]]"], unfollowed := true, recurses := true, apart := false }
def TreeLenSaid : Prop := treeLenRow.holds Try.pinned (OpenSpec.ofChange treeLenSpec)

/-- ITS FALSE NEIGHBOUR: 'it returns false'. Refute it at one input. -/
def treeLenWrong : ChangeSpec := { name := "treeLen", fn := fun _ => fun
  | [d1, d2] => { results := [.lit (.bool false)], args := [d1, d2] }
  | _ => none }
def TreeLenWrongFalsely : Prop := treeLenRow.holds Try.pinned (OpenSpec.ofChange treeLenWrong)

/-- 'palatinelaw04.TreeApart': WHATEVER THE INPUT: true; the input reads as it did. -/
def treeApartSpec : ChangeSpec := { name := "treeApart", fn := fun _ => fun
  | [d1, d2, d3] => { results := [.lit (.bool true)], args := [d1, d2, d3] }
  | _ => none }
def treeApartRow : OpenClaim := { program := "ytilmfhpoiejmfaa", sum := "e19e4d6ebb5c55546158e8ebce85372b08507e23fa38c52a5c6eef8f0da6ec8a", func := "palatine/palatinelaw04.TreeApart", spec := "treeApart", inPlace := ["slices.overlaps[palatine/tree.item[string]]", "slices.overlaps[palatine/tree.item[*palatine/tree.node]]"], unfollowed := true, recurses := true, apart := false }
def TreeApartSaid : Prop := treeApartRow.holds Try.pinned (OpenSpec.ofChange treeApartSpec)

/-- ITS FALSE NEIGHBOUR: 'it returns false'. Refute it at one input. -/
def treeApartWrong : ChangeSpec := { name := "treeApart", fn := fun _ => fun
  | [d1, d2, d3] => { results := [.lit (.bool false)], args := [d1, d2, d3] }
  | _ => none }
def TreeApartWrongFalsely : Prop := treeApartRow.holds Try.pinned (OpenSpec.ofChange treeApartWrong)

/-- 'palatinelaw04.TreeUndo': WHATEVER THE INPUT: true; the input reads as it did. -/
def treeUndoSpec : ChangeSpec := { name := "treeUndo", fn := fun _ => fun
  | [d1, d2, d3] => { results := [.lit (.bool true)], args := [d1, d2, d3] }
  | _ => none }
def treeUndoRow : OpenClaim := { program := "ytilmfhpoiejmfaa", sum := "e19e4d6ebb5c55546158e8ebce85372b08507e23fa38c52a5c6eef8f0da6ec8a", func := "palatine/palatinelaw04.TreeUndo", spec := "treeUndo", inPlace := ["slices.overlaps[palatine/tree.item[string]]", "slices.overlaps[palatine/tree.item[*palatine/tree.node]]"], unfollowed := true, recurses := true, apart := false }
def TreeUndoSaid : Prop := treeUndoRow.holds Try.pinned (OpenSpec.ofChange treeUndoSpec)

/-- ITS FALSE NEIGHBOUR: 'it returns false'. Refute it at one input. -/
def treeUndoWrong : ChangeSpec := { name := "treeUndo", fn := fun _ => fun
  | [d1, d2, d3] => { results := [.lit (.bool false)], args := [d1, d2, d3] }
  | _ => none }
def TreeUndoWrongFalsely : Prop := treeUndoRow.holds Try.pinned (OpenSpec.ofChange treeUndoWrong)

/-- 'palatinelaw04.TreePlays': WHATEVER THE INPUT: true; the input reads as it did. -/
def treePlaysSpec : ChangeSpec := { name := "treePlays", fn := fun _ => fun
  | [d1, d2] => { results := [.lit (.bool true)], args := [d1, d2] }
  | _ => none }
def treePlaysRow : OpenClaim := { program := "ytilmfhpoiejmfaa", sum := "e19e4d6ebb5c55546158e8ebce85372b08507e23fa38c52a5c6eef8f0da6ec8a", func := "palatine/palatinelaw04.TreePlays", spec := "treePlays", inPlace := ["slices.overlaps[palatine/tree.item[string]]", "slices.overlaps[palatine/tree.item[*palatine/tree.node]]"], unfollowed := true, recurses := true, apart := false }
def TreePlaysSaid : Prop := treePlaysRow.holds Try.pinned (OpenSpec.ofChange treePlaysSpec)

/-- ITS FALSE NEIGHBOUR: 'it returns false'. Refute it at one input. -/
def treePlaysWrong : ChangeSpec := { name := "treePlays", fn := fun _ => fun
  | [d1, d2] => { results := [.lit (.bool false)], args := [d1, d2] }
  | _ => none }
def TreePlaysWrongFalsely : Prop := treePlaysRow.holds Try.pinned (OpenSpec.ofChange treePlaysWrong)

/- THE SECOND FORM. 'bulk': how many values and letters a reading holds, each counted each time it is reached (what is shared counts as often as it is met; a slice's spare places count too). A statement '..UptoSaid' is the law's where the arguments, and the package variables that the reading takes, are together of bulk at most 1048576: NARROWER than '..Said'. Prove '..Said' where nothing that the law and all that it calls make is longer than what came in: it says more and counts as full. Else prove '..UptoSaid'. A law counts once. -/
mutual
def uptoBulk {H : Type} : DataW H → Nat
  | .lit (.string bytes) => bytes.length + 1
  | .lit _ => 1
  | .nil => 1
  | .ptr d => uptoBulk d + 1
  | .slice elems spare => uptoBulkAll elems + uptoBulkAll spare + 1
  | .agg parts => uptoBulkAll parts + 1
  | .iface _ d => uptoBulk d + 1
  | .map entries => uptoBulkEntries entries + 1
  | .held _ => 1
def uptoBulkAll {H : Type} : List (DataW H) → Nat
  | [] => 0
  | d :: r => uptoBulk d + uptoBulkAll r
def uptoBulkEntries {H : Type} : List (Lit × DataW H) → Nat
  | [] => 0
  | x :: r => uptoBulkEntry x + uptoBulkEntries r
def uptoBulkEntry {H : Type} : Lit × DataW H → Nat
  | (.string bytes, d) => bytes.length + uptoBulk d + 1
  | (_, d) => uptoBulk d + 1
 end
def uptoSmall : (H : Type) → List (DataW H) → Bool := fun _ ds => decide (uptoBulkAll ds ≤ 1048576)
def OpenSpec.upto (s : _root_.Go.ChangeSpec) : _root_.Go.OpenSpec := { _root_.Go.OpenSpec.ofChange s with cond := some uptoSmall }

/-- 'palatinelaw01.DiskArms', WHERE WHAT IT READS IS OF BULK AT MOST 1048576: true; the input reads as it did. -/
def diskArmsUptoRow : OpenClaim := { program := "ytilmfhpoiejmfaa", sum := "e19e4d6ebb5c55546158e8ebce85372b08507e23fa38c52a5c6eef8f0da6ec8a", func := "palatine/palatinelaw01.DiskArms", spec := "diskArms", inPlace := ["sync/atomic.StoreInt64", "sync/atomic.LoadInt64", "sync/atomic.AddInt64"], apart := false, narrowed := true }
def DiskArmsUptoSaid : Prop := diskArmsUptoRow.holds Try.pinned (OpenSpec.upto diskArmsSpec)

/-- 'palatinelaw01.DiskBack', WHERE WHAT IT READS IS OF BULK AT MOST 1048576: true; the input reads as it did. -/
def diskBackUptoRow : OpenClaim := { program := "ytilmfhpoiejmfaa", sum := "e19e4d6ebb5c55546158e8ebce85372b08507e23fa38c52a5c6eef8f0da6ec8a", func := "palatine/palatinelaw01.DiskBack", spec := "diskBack", inPlace := ["sync/atomic.StoreInt64", "sync/atomic.LoadInt64", "sync/atomic.AddInt64"], apart := false, narrowed := true }
def DiskBackUptoSaid : Prop := diskBackUptoRow.holds Try.pinned (OpenSpec.upto diskBackSpec)

/-- 'palatinelaw01.DiskCrash', WHERE WHAT IT READS IS OF BULK AT MOST 1048576: true; the input reads as it did. -/
def diskCrashUptoRow : OpenClaim := { program := "ytilmfhpoiejmfaa", sum := "e19e4d6ebb5c55546158e8ebce85372b08507e23fa38c52a5c6eef8f0da6ec8a", func := "palatine/palatinelaw01.DiskCrash", spec := "diskCrash", inPlace := ["sync/atomic.StoreInt64", "sync/atomic.LoadInt64", "sync/atomic.AddInt64"], apart := false, narrowed := true }
def DiskCrashUptoSaid : Prop := diskCrashUptoRow.holds Try.pinned (OpenSpec.upto diskCrashSpec)

/-- 'palatinelaw01.DiskFlush', WHERE WHAT IT READS IS OF BULK AT MOST 1048576: true; the input reads as it did. -/
def diskFlushUptoRow : OpenClaim := { program := "ytilmfhpoiejmfaa", sum := "e19e4d6ebb5c55546158e8ebce85372b08507e23fa38c52a5c6eef8f0da6ec8a", func := "palatine/palatinelaw01.DiskFlush", spec := "diskFlush", inPlace := ["sync/atomic.StoreInt64", "sync/atomic.LoadInt64", "sync/atomic.AddInt64"], apart := false, narrowed := true }
def DiskFlushUptoSaid : Prop := diskFlushUptoRow.holds Try.pinned (OpenSpec.upto diskFlushSpec)

/-- 'palatinelaw01.DiskAgain', WHERE WHAT IT READS IS OF BULK AT MOST 1048576: true; the input reads as it did. -/
def diskAgainUptoRow : OpenClaim := { program := "ytilmfhpoiejmfaa", sum := "e19e4d6ebb5c55546158e8ebce85372b08507e23fa38c52a5c6eef8f0da6ec8a", func := "palatine/palatinelaw01.DiskAgain", spec := "diskAgain", inPlace := ["sync/atomic.StoreInt64", "sync/atomic.LoadInt64", "sync/atomic.AddInt64"], apart := false, narrowed := true }
def DiskAgainUptoSaid : Prop := diskAgainUptoRow.holds Try.pinned (OpenSpec.upto diskAgainSpec)

/-- 'palatinelaw01.DiskPlays', WHERE WHAT IT READS IS OF BULK AT MOST 1048576: true; the input reads as it did. -/
def diskPlaysUptoRow : OpenClaim := { program := "ytilmfhpoiejmfaa", sum := "e19e4d6ebb5c55546158e8ebce85372b08507e23fa38c52a5c6eef8f0da6ec8a", func := "palatine/palatinelaw01.DiskPlays", spec := "diskPlays", inPlace := ["sync/atomic.StoreInt64", "sync/atomic.LoadInt64", "sync/atomic.AddInt64"], apart := false, narrowed := true }
def DiskPlaysUptoSaid : Prop := diskPlaysUptoRow.holds Try.pinned (OpenSpec.upto diskPlaysSpec)

/-- 'palatinelaw03.LogBack', WHERE WHAT IT READS IS OF BULK AT MOST 1048576: true; the input reads as it did. -/
def logBackUptoRow : OpenClaim := { program := "ytilmfhpoiejmfaa", sum := "e19e4d6ebb5c55546158e8ebce85372b08507e23fa38c52a5c6eef8f0da6ec8a", func := "palatine/palatinelaw03.LogBack", spec := "logBack", inPlace := ["sync/atomic.StoreInt64", "sync/atomic.LoadInt64", "sync/atomic.AddInt64"], unfollowed := true, recurses := true, apart := false, narrowed := true }
def LogBackUptoSaid : Prop := logBackUptoRow.holds Try.pinned (OpenSpec.upto logBackSpec)

/-- 'palatinelaw03.LogElder', WHERE WHAT IT READS IS OF BULK AT MOST 1048576: true; the input reads as it did. -/
def logElderUptoRow : OpenClaim := { program := "ytilmfhpoiejmfaa", sum := "e19e4d6ebb5c55546158e8ebce85372b08507e23fa38c52a5c6eef8f0da6ec8a", func := "palatine/palatinelaw03.LogElder", spec := "logElder", inPlace := ["sync/atomic.StoreInt64", "sync/atomic.LoadInt64", "sync/atomic.AddInt64"], unfollowed := true, recurses := true, apart := false, narrowed := true }
def LogElderUptoSaid : Prop := logElderUptoRow.holds Try.pinned (OpenSpec.upto logElderSpec)

/-- 'palatinelaw03.LogRoom', WHERE WHAT IT READS IS OF BULK AT MOST 1048576: true; the input reads as it did. -/
def logRoomUptoRow : OpenClaim := { program := "ytilmfhpoiejmfaa", sum := "e19e4d6ebb5c55546158e8ebce85372b08507e23fa38c52a5c6eef8f0da6ec8a", func := "palatine/palatinelaw03.LogRoom", spec := "logRoom", inPlace := ["sync/atomic.StoreInt64", "sync/atomic.LoadInt64", "sync/atomic.AddInt64"], unfollowed := true, recurses := true, apart := false, narrowed := true }
def LogRoomUptoSaid : Prop := logRoomUptoRow.holds Try.pinned (OpenSpec.upto logRoomSpec)

/-- 'palatinelaw03.LogLasts', WHERE WHAT IT READS IS OF BULK AT MOST 1048576: true; the input reads as it did. -/
def logLastsUptoRow : OpenClaim := { program := "ytilmfhpoiejmfaa", sum := "e19e4d6ebb5c55546158e8ebce85372b08507e23fa38c52a5c6eef8f0da6ec8a", func := "palatine/palatinelaw03.LogLasts", spec := "logLasts", inPlace := ["sync/atomic.StoreInt64", "sync/atomic.LoadInt64", "sync/atomic.AddInt64"], unfollowed := true, recurses := true, apart := false, narrowed := true }
def LogLastsUptoSaid : Prop := logLastsUptoRow.holds Try.pinned (OpenSpec.upto logLastsSpec)

/-- 'palatinelaw03.LogPlays', WHERE WHAT IT READS IS OF BULK AT MOST 1048576: true; the input reads as it did. -/
def logPlaysUptoRow : OpenClaim := { program := "ytilmfhpoiejmfaa", sum := "e19e4d6ebb5c55546158e8ebce85372b08507e23fa38c52a5c6eef8f0da6ec8a", func := "palatine/palatinelaw03.LogPlays", spec := "logPlays", inPlace := ["sync/atomic.StoreInt64", "sync/atomic.LoadInt64", "sync/atomic.AddInt64"], unfollowed := true, recurses := true, apart := false, narrowed := true }
def LogPlaysUptoSaid : Prop := logPlaysUptoRow.holds Try.pinned (OpenSpec.upto logPlaysSpec)

/-- 'palatinelaw04.TreeOrder', WHERE WHAT IT READS IS OF BULK AT MOST 1048576: true; the input reads as it did. -/
def treeOrderUptoRow : OpenClaim := { program := "ytilmfhpoiejmfaa", sum := "e19e4d6ebb5c55546158e8ebce85372b08507e23fa38c52a5c6eef8f0da6ec8a", func := "palatine/palatinelaw04.TreeOrder", spec := "treeOrder", inPlace := ["slices.overlaps[palatine/tree.item[string]]", "slices.overlaps[palatine/tree.item[*palatine/tree.node]]"], unfollowed := true, recurses := true, apart := false, narrowed := true }
def TreeOrderUptoSaid : Prop := treeOrderUptoRow.holds Try.pinned (OpenSpec.upto treeOrderSpec)

/-- 'palatinelaw04.TreeTurned', WHERE WHAT IT READS IS OF BULK AT MOST 1048576: true; the input reads as it did. -/
def treeTurnedUptoRow : OpenClaim := { program := "ytilmfhpoiejmfaa", sum := "e19e4d6ebb5c55546158e8ebce85372b08507e23fa38c52a5c6eef8f0da6ec8a", func := "palatine/palatinelaw04.TreeTurned", spec := "treeTurned", inPlace := ["slices.overlaps[palatine/tree.item[string]]", "slices.overlaps[palatine/tree.item[*palatine/tree.node]]"], unfollowed := true, recurses := true, apart := false, narrowed := true }
def TreeTurnedUptoSaid : Prop := treeTurnedUptoRow.holds Try.pinned (OpenSpec.upto treeTurnedSpec)

/-- 'palatinelaw04.TreeCuts', WHERE WHAT IT READS IS OF BULK AT MOST 1048576: true; the input reads as it did. -/
def treeCutsUptoRow : OpenClaim := { program := "ytilmfhpoiejmfaa", sum := "e19e4d6ebb5c55546158e8ebce85372b08507e23fa38c52a5c6eef8f0da6ec8a", func := "palatine/palatinelaw04.TreeCuts", spec := "treeCuts", inPlace := ["slices.overlaps[palatine/tree.item[string]]", "slices.overlaps[palatine/tree.item[*palatine/tree.node]]"], unfollowed := true, recurses := true, apart := false, narrowed := true }
def TreeCutsUptoSaid : Prop := treeCutsUptoRow.holds Try.pinned (OpenSpec.upto treeCutsSpec)

/-- 'palatinelaw04.TreeLen', WHERE WHAT IT READS IS OF BULK AT MOST 1048576: true; the input reads as it did. -/
def treeLenUptoRow : OpenClaim := { program := "ytilmfhpoiejmfaa", sum := "e19e4d6ebb5c55546158e8ebce85372b08507e23fa38c52a5c6eef8f0da6ec8a", func := "palatine/palatinelaw04.TreeLen", spec := "treeLen", inPlace := ["slices.overlaps[palatine/tree.item[string]]", "slices.overlaps[palatine/tree.item[*palatine/tree.node]]"], unfollowed := true, recurses := true, apart := false, narrowed := true }
def TreeLenUptoSaid : Prop := treeLenUptoRow.holds Try.pinned (OpenSpec.upto treeLenSpec)

/-- 'palatinelaw04.TreeApart', WHERE WHAT IT READS IS OF BULK AT MOST 1048576: true; the input reads as it did. -/
def treeApartUptoRow : OpenClaim := { program := "ytilmfhpoiejmfaa", sum := "e19e4d6ebb5c55546158e8ebce85372b08507e23fa38c52a5c6eef8f0da6ec8a", func := "palatine/palatinelaw04.TreeApart", spec := "treeApart", inPlace := ["slices.overlaps[palatine/tree.item[string]]", "slices.overlaps[palatine/tree.item[*palatine/tree.node]]"], unfollowed := true, recurses := true, apart := false, narrowed := true }
def TreeApartUptoSaid : Prop := treeApartUptoRow.holds Try.pinned (OpenSpec.upto treeApartSpec)

/-- 'palatinelaw04.TreeUndo', WHERE WHAT IT READS IS OF BULK AT MOST 1048576: true; the input reads as it did. -/
def treeUndoUptoRow : OpenClaim := { program := "ytilmfhpoiejmfaa", sum := "e19e4d6ebb5c55546158e8ebce85372b08507e23fa38c52a5c6eef8f0da6ec8a", func := "palatine/palatinelaw04.TreeUndo", spec := "treeUndo", inPlace := ["slices.overlaps[palatine/tree.item[string]]", "slices.overlaps[palatine/tree.item[*palatine/tree.node]]"], unfollowed := true, recurses := true, apart := false, narrowed := true }
def TreeUndoUptoSaid : Prop := treeUndoUptoRow.holds Try.pinned (OpenSpec.upto treeUndoSpec)

/-- 'palatinelaw04.TreePlays', WHERE WHAT IT READS IS OF BULK AT MOST 1048576: true; the input reads as it did. -/
def treePlaysUptoRow : OpenClaim := { program := "ytilmfhpoiejmfaa", sum := "e19e4d6ebb5c55546158e8ebce85372b08507e23fa38c52a5c6eef8f0da6ec8a", func := "palatine/palatinelaw04.TreePlays", spec := "treePlays", inPlace := ["slices.overlaps[palatine/tree.item[string]]", "slices.overlaps[palatine/tree.item[*palatine/tree.node]]"], unfollowed := true, recurses := true, apart := false, narrowed := true }
def TreePlaysUptoSaid : Prop := treePlaysUptoRow.holds Try.pinned (OpenSpec.upto treePlaysSpec)

end Rows
end Go.Proofs.Ytilmfhpoiejmfaa
