/-
  NARROWER THAN 'FOR EVERY INPUT', by the rows' own cells (each row's printed sentence says how): BerBack: loops · BerCut: loops · BerWrites: loops · MessageBack: loops · MessageWhole: loops.
  DERIVED. THE GIVEN ROWS OF THIS SEAT. 15 by the template 'for every input the law returns true; each argument reads behind the call as it read before'; 0 by the template 'total and deterministic' (their statements: YtbojbofakmihmaaTotals.lean).
  GIVEN WITH THE SEED: the statements are not yours to turn. If you find one false, say at which input.
  Laid BY PROGRAM, IN A SANDBOX (cutbox-rows.mjs): the forced cells as the released guide's own fill.sh prints them over the translation 39379ba43206cd62… (all of the seat's roots in one cut). By AI agents, Wed Nov 11 2026. No macro, syntax, notation, axiom, sorry.
-/
import Derived.Test.YtbojbofakmihmaaChecked
import GoSem.Claim
import GoSem.ClaimJoined
import GoSem.ClaimMapViews
import Derived.JoinedTies
import Derived.KernelRfl
namespace Go.Proofs.Ytbojbofakmihmaa
/- THE CELL 'sum', in the pinned program and in every row, IS THE sha256 OF THE DUMP (.gsa) THAT YtbojbofakmihmaaProg.lean LOADS. Nothing in Lean hashes anything: it is a label: what it is worth is what the hold of that sum in a sandbox is worth. -/
noncomputable def Try.pinned : Pinned := { name := "ytbojbofakmihmaa", sum := "39379ba43206cd629f8eece0b3f271280b2be54d2fb49847fb5602f70376cceb", checked := Try.checked }
namespace Rows
def none {H : Type} : Left H := { results := [], args := [] }

/-- 'palatinelaw10.FramePlays': WHATEVER THE INPUT: true; the input reads as it did. -/
def framePlaysSpec : ChangeSpec := { name := "framePlays", fn := fun _ => fun
  | [d] => { results := [.lit (.bool true)], args := [d] }
  | _ => none }
def framePlaysRow : OpenClaim := { program := "ytbojbofakmihmaa", sum := "39379ba43206cd629f8eece0b3f271280b2be54d2fb49847fb5602f70376cceb", func := "palatine/palatinelaw10.FramePlays", spec := "framePlays", unfollowed := true, recurses := true, apart := false }
def FramePlaysSaid : Prop := framePlaysRow.holds Try.pinned (OpenSpec.ofChange framePlaysSpec)

/-- ITS FALSE NEIGHBOUR: 'it returns false'. Refute it at one input. -/
def framePlaysWrong : ChangeSpec := { name := "framePlays", fn := fun _ => fun
  | [d] => { results := [.lit (.bool false)], args := [d] }
  | _ => none }
def FramePlaysWrongFalsely : Prop := framePlaysRow.holds Try.pinned (OpenSpec.ofChange framePlaysWrong)

/-- 'palatinelaw10.FrameCuts': WHATEVER THE INPUT: true; the input reads as it did. -/
def frameCutsSpec : ChangeSpec := { name := "frameCuts", fn := fun _ => fun
  | [d1, d2] => { results := [.lit (.bool true)], args := [d1, d2] }
  | _ => none }
def frameCutsRow : OpenClaim := { program := "ytbojbofakmihmaa", sum := "39379ba43206cd629f8eece0b3f271280b2be54d2fb49847fb5602f70376cceb", func := "palatine/palatinelaw10.FrameCuts", spec := "frameCuts", unfollowed := true, recurses := true, apart := false }
def FrameCutsSaid : Prop := frameCutsRow.holds Try.pinned (OpenSpec.ofChange frameCutsSpec)

/-- ITS FALSE NEIGHBOUR: 'it returns false'. Refute it at one input. -/
def frameCutsWrong : ChangeSpec := { name := "frameCuts", fn := fun _ => fun
  | [d1, d2] => { results := [.lit (.bool false)], args := [d1, d2] }
  | _ => none }
def FrameCutsWrongFalsely : Prop := frameCutsRow.holds Try.pinned (OpenSpec.ofChange frameCutsWrong)

/-- 'palatinelaw10.FrameAll': WHATEVER THE INPUT: true; the input reads as it did. -/
def frameAllSpec : ChangeSpec := { name := "frameAll", fn := fun _ => fun
  | [d] => { results := [.lit (.bool true)], args := [d] }
  | _ => none }
def frameAllRow : OpenClaim := { program := "ytbojbofakmihmaa", sum := "39379ba43206cd629f8eece0b3f271280b2be54d2fb49847fb5602f70376cceb", func := "palatine/palatinelaw10.FrameAll", spec := "frameAll", unfollowed := true, recurses := true, apart := false }
def FrameAllSaid : Prop := frameAllRow.holds Try.pinned (OpenSpec.ofChange frameAllSpec)

/-- ITS FALSE NEIGHBOUR: 'it returns false'. Refute it at one input. -/
def frameAllWrong : ChangeSpec := { name := "frameAll", fn := fun _ => fun
  | [d] => { results := [.lit (.bool false)], args := [d] }
  | _ => none }
def FrameAllWrongFalsely : Prop := frameAllRow.holds Try.pinned (OpenSpec.ofChange frameAllWrong)

/-- 'palatinelaw10.FrameBack': WHATEVER THE INPUT: true; the input reads as it did. -/
def frameBackSpec : ChangeSpec := { name := "frameBack", fn := fun _ => fun
  | [d] => { results := [.lit (.bool true)], args := [d] }
  | _ => none }
def frameBackRow : OpenClaim := { program := "ytbojbofakmihmaa", sum := "39379ba43206cd629f8eece0b3f271280b2be54d2fb49847fb5602f70376cceb", func := "palatine/palatinelaw10.FrameBack", spec := "frameBack", inPlace := ["internal/abi.NoEscape"], unfollowed := true, recurses := true, apart := false }
def FrameBackSaid : Prop := frameBackRow.holds Try.pinned (OpenSpec.ofChange frameBackSpec)

/-- ITS FALSE NEIGHBOUR: 'it returns false'. Refute it at one input. -/
def frameBackWrong : ChangeSpec := { name := "frameBack", fn := fun _ => fun
  | [d] => { results := [.lit (.bool false)], args := [d] }
  | _ => none }
def FrameBackWrongFalsely : Prop := frameBackRow.holds Try.pinned (OpenSpec.ofChange frameBackWrong)

/-- 'palatinelaw09.BerReads': WHATEVER THE INPUT: true; the input reads as it did. -/
def berReadsSpec : ChangeSpec := { name := "berReads", fn := fun _ => fun
  | [d] => { results := [.lit (.bool true)], args := [d] }
  | _ => none }
def berReadsRow : OpenClaim := { program := "ytbojbofakmihmaa", sum := "39379ba43206cd629f8eece0b3f271280b2be54d2fb49847fb5602f70376cceb", func := "palatine/palatinelaw09.BerReads", spec := "berReads", inPlace := ["internal/abi.NoEscape"], unfollowed := true, recurses := true, apart := false }
def BerReadsSaid : Prop := berReadsRow.holds Try.pinned (OpenSpec.ofChange berReadsSpec)

/-- ITS FALSE NEIGHBOUR: 'it returns false'. Refute it at one input. -/
def berReadsWrong : ChangeSpec := { name := "berReads", fn := fun _ => fun
  | [d] => { results := [.lit (.bool false)], args := [d] }
  | _ => none }
def BerReadsWrongFalsely : Prop := berReadsRow.holds Try.pinned (OpenSpec.ofChange berReadsWrong)

/-- 'palatinelaw09.BerBack': WHATEVER THE INPUT: true; the input reads as it did. -/
def berBackSpec : ChangeSpec := { name := "berBack", fn := fun _ => fun
  | [d1, d2] => { results := [.lit (.bool true)], args := [d1, d2] }
  | _ => none }
def berBackRow : OpenClaim := { program := "ytbojbofakmihmaa", sum := "39379ba43206cd629f8eece0b3f271280b2be54d2fb49847fb5602f70376cceb", func := "palatine/palatinelaw09.BerBack", spec := "berBack", inPlace := ["internal/abi.NoEscape"], unfollowed := true, recurses := true, loops := true, apart := false }
def BerBackSaid : Prop := berBackRow.holds Try.pinned (OpenSpec.ofChange berBackSpec)

/-- ITS FALSE NEIGHBOUR: 'it returns false'. Refute it at one input. -/
def berBackWrong : ChangeSpec := { name := "berBack", fn := fun _ => fun
  | [d1, d2] => { results := [.lit (.bool false)], args := [d1, d2] }
  | _ => none }
def BerBackWrongFalsely : Prop := berBackRow.holds Try.pinned (OpenSpec.ofChange berBackWrong)

/-- 'palatinelaw09.BerOnly': WHATEVER THE INPUT: true; the input reads as it did. -/
def berOnlySpec : ChangeSpec := { name := "berOnly", fn := fun _ => fun
  | [d] => { results := [.lit (.bool true)], args := [d] }
  | _ => none }
def berOnlyRow : OpenClaim := { program := "ytbojbofakmihmaa", sum := "39379ba43206cd629f8eece0b3f271280b2be54d2fb49847fb5602f70376cceb", func := "palatine/palatinelaw09.BerOnly", spec := "berOnly", inPlace := ["internal/abi.NoEscape"], unfollowed := true, recurses := true, apart := false }
def BerOnlySaid : Prop := berOnlyRow.holds Try.pinned (OpenSpec.ofChange berOnlySpec)

/-- ITS FALSE NEIGHBOUR: 'it returns false'. Refute it at one input. -/
def berOnlyWrong : ChangeSpec := { name := "berOnly", fn := fun _ => fun
  | [d] => { results := [.lit (.bool false)], args := [d] }
  | _ => none }
def BerOnlyWrongFalsely : Prop := berOnlyRow.holds Try.pinned (OpenSpec.ofChange berOnlyWrong)

/-- 'palatinelaw09.BerCut': WHATEVER THE INPUT: true; the input reads as it did. -/
def berCutSpec : ChangeSpec := { name := "berCut", fn := fun _ => fun
  | [d1, d2] => { results := [.lit (.bool true)], args := [d1, d2] }
  | _ => none }
def berCutRow : OpenClaim := { program := "ytbojbofakmihmaa", sum := "39379ba43206cd629f8eece0b3f271280b2be54d2fb49847fb5602f70376cceb", func := "palatine/palatinelaw09.BerCut", spec := "berCut", inPlace := ["internal/abi.NoEscape"], unfollowed := true, recurses := true, loops := true, apart := false }
def BerCutSaid : Prop := berCutRow.holds Try.pinned (OpenSpec.ofChange berCutSpec)

/-- ITS FALSE NEIGHBOUR: 'it returns false'. Refute it at one input. -/
def berCutWrong : ChangeSpec := { name := "berCut", fn := fun _ => fun
  | [d1, d2] => { results := [.lit (.bool false)], args := [d1, d2] }
  | _ => none }
def BerCutWrongFalsely : Prop := berCutRow.holds Try.pinned (OpenSpec.ofChange berCutWrong)

/-- 'palatinelaw09.BerNumbers': WHATEVER THE INPUT: true; the input reads as it did. -/
def berNumbersSpec : ChangeSpec := { name := "berNumbers", fn := fun _ => fun
  | [d1, d2] => { results := [.lit (.bool true)], args := [d1, d2] }
  | _ => none }
def berNumbersRow : OpenClaim := { program := "ytbojbofakmihmaa", sum := "39379ba43206cd629f8eece0b3f271280b2be54d2fb49847fb5602f70376cceb", func := "palatine/palatinelaw09.BerNumbers", spec := "berNumbers", inPlace := ["internal/abi.NoEscape"], unfollowed := true, recurses := true, apart := false }
def BerNumbersSaid : Prop := berNumbersRow.holds Try.pinned (OpenSpec.ofChange berNumbersSpec)

/-- ITS FALSE NEIGHBOUR: 'it returns false'. Refute it at one input. -/
def berNumbersWrong : ChangeSpec := { name := "berNumbers", fn := fun _ => fun
  | [d1, d2] => { results := [.lit (.bool false)], args := [d1, d2] }
  | _ => none }
def BerNumbersWrongFalsely : Prop := berNumbersRow.holds Try.pinned (OpenSpec.ofChange berNumbersWrong)

/-- 'palatinelaw09.BerNests': WHATEVER THE INPUT: true; the input reads as it did. -/
def berNestsSpec : ChangeSpec := { name := "berNests", fn := fun _ => fun
  | [d1, d2] => { results := [.lit (.bool true)], args := [d1, d2] }
  | _ => none }
def berNestsRow : OpenClaim := { program := "ytbojbofakmihmaa", sum := "39379ba43206cd629f8eece0b3f271280b2be54d2fb49847fb5602f70376cceb", func := "palatine/palatinelaw09.BerNests", spec := "berNests", inPlace := ["internal/abi.NoEscape"], unfollowed := true, recurses := true, apart := false }
def BerNestsSaid : Prop := berNestsRow.holds Try.pinned (OpenSpec.ofChange berNestsSpec)

/-- ITS FALSE NEIGHBOUR: 'it returns false'. Refute it at one input. -/
def berNestsWrong : ChangeSpec := { name := "berNests", fn := fun _ => fun
  | [d1, d2] => { results := [.lit (.bool false)], args := [d1, d2] }
  | _ => none }
def BerNestsWrongFalsely : Prop := berNestsRow.holds Try.pinned (OpenSpec.ofChange berNestsWrong)

/-- 'palatinelaw09.BerWrites': WHATEVER THE INPUT: true; the input reads as it did. -/
def berWritesSpec : ChangeSpec := { name := "berWrites", fn := fun _ => fun
  | [d] => { results := [.lit (.bool true)], args := [d] }
  | _ => none }
def berWritesRow : OpenClaim := { program := "ytbojbofakmihmaa", sum := "39379ba43206cd629f8eece0b3f271280b2be54d2fb49847fb5602f70376cceb", func := "palatine/palatinelaw09.BerWrites", spec := "berWrites", inPlace := ["internal/abi.NoEscape"], unfollowed := true, recurses := true, loops := true, apart := false }
def BerWritesSaid : Prop := berWritesRow.holds Try.pinned (OpenSpec.ofChange berWritesSpec)

/-- ITS FALSE NEIGHBOUR: 'it returns false'. Refute it at one input. -/
def berWritesWrong : ChangeSpec := { name := "berWrites", fn := fun _ => fun
  | [d] => { results := [.lit (.bool false)], args := [d] }
  | _ => none }
def BerWritesWrongFalsely : Prop := berWritesRow.holds Try.pinned (OpenSpec.ofChange berWritesWrong)

/-- 'palatinelaw11.MessageBack': WHATEVER THE INPUT: true; the input reads as it did. -/
def messageBackSpec : ChangeSpec := { name := "messageBack", fn := fun _ => fun
  | [d] => { results := [.lit (.bool true)], args := [d] }
  | _ => none }
def messageBackRow : OpenClaim := { program := "ytbojbofakmihmaa", sum := "39379ba43206cd629f8eece0b3f271280b2be54d2fb49847fb5602f70376cceb", func := "palatine/palatinelaw11.MessageBack", spec := "messageBack", inPlace := ["internal/abi.NoEscape"], unfollowed := true, recurses := true, loops := true, apart := false }
def MessageBackSaid : Prop := messageBackRow.holds Try.pinned (OpenSpec.ofChange messageBackSpec)

/-- ITS FALSE NEIGHBOUR: 'it returns false'. Refute it at one input. -/
def messageBackWrong : ChangeSpec := { name := "messageBack", fn := fun _ => fun
  | [d] => { results := [.lit (.bool false)], args := [d] }
  | _ => none }
def MessageBackWrongFalsely : Prop := messageBackRow.holds Try.pinned (OpenSpec.ofChange messageBackWrong)

/-- 'palatinelaw11.MessageOnly': WHATEVER THE INPUT: true; the input reads as it did. -/
def messageOnlySpec : ChangeSpec := { name := "messageOnly", fn := fun _ => fun
  | [d] => { results := [.lit (.bool true)], args := [d] }
  | _ => none }
def messageOnlyRow : OpenClaim := { program := "ytbojbofakmihmaa", sum := "39379ba43206cd629f8eece0b3f271280b2be54d2fb49847fb5602f70376cceb", func := "palatine/palatinelaw11.MessageOnly", spec := "messageOnly", inPlace := ["internal/abi.NoEscape"], unfollowed := true, recurses := true, apart := false }
def MessageOnlySaid : Prop := messageOnlyRow.holds Try.pinned (OpenSpec.ofChange messageOnlySpec)

/-- ITS FALSE NEIGHBOUR: 'it returns false'. Refute it at one input. -/
def messageOnlyWrong : ChangeSpec := { name := "messageOnly", fn := fun _ => fun
  | [d] => { results := [.lit (.bool false)], args := [d] }
  | _ => none }
def MessageOnlyWrongFalsely : Prop := messageOnlyRow.holds Try.pinned (OpenSpec.ofChange messageOnlyWrong)

/-- 'palatinelaw11.MessageWhole': WHATEVER THE INPUT: true; the input reads as it did. -/
def messageWholeSpec : ChangeSpec := { name := "messageWhole", fn := fun _ => fun
  | [d1, d2, d3] => { results := [.lit (.bool true)], args := [d1, d2, d3] }
  | _ => none }
def messageWholeRow : OpenClaim := { program := "ytbojbofakmihmaa", sum := "39379ba43206cd629f8eece0b3f271280b2be54d2fb49847fb5602f70376cceb", func := "palatine/palatinelaw11.MessageWhole", spec := "messageWhole", inPlace := ["internal/abi.NoEscape"], unfollowed := true, recurses := true, loops := true, apart := false }
def MessageWholeSaid : Prop := messageWholeRow.holds Try.pinned (OpenSpec.ofChange messageWholeSpec)

/-- ITS FALSE NEIGHBOUR: 'it returns false'. Refute it at one input. -/
def messageWholeWrong : ChangeSpec := { name := "messageWhole", fn := fun _ => fun
  | [d1, d2, d3] => { results := [.lit (.bool false)], args := [d1, d2, d3] }
  | _ => none }
def MessageWholeWrongFalsely : Prop := messageWholeRow.holds Try.pinned (OpenSpec.ofChange messageWholeWrong)

/-- 'palatinelaw11.MessageNests': WHATEVER THE INPUT: true; the input reads as it did. -/
def messageNestsSpec : ChangeSpec := { name := "messageNests", fn := fun _ => fun
  | [d1, d2] => { results := [.lit (.bool true)], args := [d1, d2] }
  | _ => none }
def messageNestsRow : OpenClaim := { program := "ytbojbofakmihmaa", sum := "39379ba43206cd629f8eece0b3f271280b2be54d2fb49847fb5602f70376cceb", func := "palatine/palatinelaw11.MessageNests", spec := "messageNests", inPlace := ["internal/abi.NoEscape"], unfollowed := true, recurses := true, apart := false }
def MessageNestsSaid : Prop := messageNestsRow.holds Try.pinned (OpenSpec.ofChange messageNestsSpec)

/-- ITS FALSE NEIGHBOUR: 'it returns false'. Refute it at one input. -/
def messageNestsWrong : ChangeSpec := { name := "messageNests", fn := fun _ => fun
  | [d1, d2] => { results := [.lit (.bool false)], args := [d1, d2] }
  | _ => none }
def MessageNestsWrongFalsely : Prop := messageNestsRow.holds Try.pinned (OpenSpec.ofChange messageNestsWrong)

/- THE SECOND FORM. 'bulk': how many values and letters a reading holds, each counted each time it is reached (what is shared counts as often as it is met; a slice's spare places count too). A statement '..UptoSaid' is the law's where the arguments, and the package variables that the reading takes, are together of bulk at most 1048576: NARROWER than '..Said'. Prove '..Said' where nothing that the law and all that it calls make is longer than what came in: it says more and counts as full. Else prove '..UptoSaid'. A law counts once. -/
mutual
def uptoBulk {H : Type} : DataW H → Nat
  | .lit (.string bytes) => bytes.length + 1
  | .lit _ => 1
  | .nil => 1
  | .ptr d => uptoBulk d + 1
  | .slice elems spare => uptoBulkAll elems + uptoBulkAll spare + 1
  | .agg parts => uptoBulkAll parts + 1
  | .iface _ d => uptoBulk d + 1
  | .map entries => uptoBulkEntries entries + 1
  | .held _ => 1
def uptoBulkAll {H : Type} : List (DataW H) → Nat
  | [] => 0
  | d :: r => uptoBulk d + uptoBulkAll r
def uptoBulkEntries {H : Type} : List (Lit × DataW H) → Nat
  | [] => 0
  | x :: r => uptoBulkEntry x + uptoBulkEntries r
def uptoBulkEntry {H : Type} : Lit × DataW H → Nat
  | (.string bytes, d) => bytes.length + uptoBulk d + 1
  | (_, d) => uptoBulk d + 1
 end
def uptoSmall : (H : Type) → List (DataW H) → Bool := fun _ ds => decide (uptoBulkAll ds ≤ 1048576)
def OpenSpec.upto (s : _root_.Go.ChangeSpec) : _root_.Go.OpenSpec := { _root_.Go.OpenSpec.ofChange s with cond := some uptoSmall }

/-- 'palatinelaw10.FramePlays', WHERE WHAT IT READS IS OF BULK AT MOST 1048576: true; the input reads as it did. -/
def framePlaysUptoRow : OpenClaim := { program := "ytbojbofakmihmaa", sum := "39379ba43206cd629f8eece0b3f271280b2be54d2fb49847fb5602f70376cceb", func := "palatine/palatinelaw10.FramePlays", spec := "framePlays", unfollowed := true, recurses := true, apart := false, narrowed := true }
def FramePlaysUptoSaid : Prop := framePlaysUptoRow.holds Try.pinned (OpenSpec.upto framePlaysSpec)

/-- 'palatinelaw10.FrameCuts', WHERE WHAT IT READS IS OF BULK AT MOST 1048576: true; the input reads as it did. -/
def frameCutsUptoRow : OpenClaim := { program := "ytbojbofakmihmaa", sum := "39379ba43206cd629f8eece0b3f271280b2be54d2fb49847fb5602f70376cceb", func := "palatine/palatinelaw10.FrameCuts", spec := "frameCuts", unfollowed := true, recurses := true, apart := false, narrowed := true }
def FrameCutsUptoSaid : Prop := frameCutsUptoRow.holds Try.pinned (OpenSpec.upto frameCutsSpec)

/-- 'palatinelaw10.FrameAll', WHERE WHAT IT READS IS OF BULK AT MOST 1048576: true; the input reads as it did. -/
def frameAllUptoRow : OpenClaim := { program := "ytbojbofakmihmaa", sum := "39379ba43206cd629f8eece0b3f271280b2be54d2fb49847fb5602f70376cceb", func := "palatine/palatinelaw10.FrameAll", spec := "frameAll", unfollowed := true, recurses := true, apart := false, narrowed := true }
def FrameAllUptoSaid : Prop := frameAllUptoRow.holds Try.pinned (OpenSpec.upto frameAllSpec)

/-- 'palatinelaw10.FrameBack', WHERE WHAT IT READS IS OF BULK AT MOST 1048576: true; the input reads as it did. -/
def frameBackUptoRow : OpenClaim := { program := "ytbojbofakmihmaa", sum := "39379ba43206cd629f8eece0b3f271280b2be54d2fb49847fb5602f70376cceb", func := "palatine/palatinelaw10.FrameBack", spec := "frameBack", inPlace := ["internal/abi.NoEscape"], unfollowed := true, recurses := true, apart := false, narrowed := true }
def FrameBackUptoSaid : Prop := frameBackUptoRow.holds Try.pinned (OpenSpec.upto frameBackSpec)

/-- 'palatinelaw09.BerReads', WHERE WHAT IT READS IS OF BULK AT MOST 1048576: true; the input reads as it did. -/
def berReadsUptoRow : OpenClaim := { program := "ytbojbofakmihmaa", sum := "39379ba43206cd629f8eece0b3f271280b2be54d2fb49847fb5602f70376cceb", func := "palatine/palatinelaw09.BerReads", spec := "berReads", inPlace := ["internal/abi.NoEscape"], unfollowed := true, recurses := true, apart := false, narrowed := true }
def BerReadsUptoSaid : Prop := berReadsUptoRow.holds Try.pinned (OpenSpec.upto berReadsSpec)

/-- 'palatinelaw09.BerBack', WHERE WHAT IT READS IS OF BULK AT MOST 1048576: true; the input reads as it did. -/
def berBackUptoRow : OpenClaim := { program := "ytbojbofakmihmaa", sum := "39379ba43206cd629f8eece0b3f271280b2be54d2fb49847fb5602f70376cceb", func := "palatine/palatinelaw09.BerBack", spec := "berBack", inPlace := ["internal/abi.NoEscape"], unfollowed := true, recurses := true, loops := true, apart := false, narrowed := true }
def BerBackUptoSaid : Prop := berBackUptoRow.holds Try.pinned (OpenSpec.upto berBackSpec)

/-- 'palatinelaw09.BerOnly', WHERE WHAT IT READS IS OF BULK AT MOST 1048576: true; the input reads as it did. -/
def berOnlyUptoRow : OpenClaim := { program := "ytbojbofakmihmaa", sum := "39379ba43206cd629f8eece0b3f271280b2be54d2fb49847fb5602f70376cceb", func := "palatine/palatinelaw09.BerOnly", spec := "berOnly", inPlace := ["internal/abi.NoEscape"], unfollowed := true, recurses := true, apart := false, narrowed := true }
def BerOnlyUptoSaid : Prop := berOnlyUptoRow.holds Try.pinned (OpenSpec.upto berOnlySpec)

/-- 'palatinelaw09.BerCut', WHERE WHAT IT READS IS OF BULK AT MOST 1048576: true; the input reads as it did. -/
def berCutUptoRow : OpenClaim := { program := "ytbojbofakmihmaa", sum := "39379ba43206cd629f8eece0b3f271280b2be54d2fb49847fb5602f70376cceb", func := "palatine/palatinelaw09.BerCut", spec := "berCut", inPlace := ["internal/abi.NoEscape"], unfollowed := true, recurses := true, loops := true, apart := false, narrowed := true }
def BerCutUptoSaid : Prop := berCutUptoRow.holds Try.pinned (OpenSpec.upto berCutSpec)

/-- 'palatinelaw09.BerNumbers', WHERE WHAT IT READS IS OF BULK AT MOST 1048576: true; the input reads as it did. -/
def berNumbersUptoRow : OpenClaim := { program := "ytbojbofakmihmaa", sum := "39379ba43206cd629f8eece0b3f271280b2be54d2fb49847fb5602f70376cceb", func := "palatine/palatinelaw09.BerNumbers", spec := "berNumbers", inPlace := ["internal/abi.NoEscape"], unfollowed := true, recurses := true, apart := false, narrowed := true }
def BerNumbersUptoSaid : Prop := berNumbersUptoRow.holds Try.pinned (OpenSpec.upto berNumbersSpec)

/-- 'palatinelaw09.BerNests', WHERE WHAT IT READS IS OF BULK AT MOST 1048576: true; the input reads as it did. -/
def berNestsUptoRow : OpenClaim := { program := "ytbojbofakmihmaa", sum := "39379ba43206cd629f8eece0b3f271280b2be54d2fb49847fb5602f70376cceb", func := "palatine/palatinelaw09.BerNests", spec := "berNests", inPlace := ["internal/abi.NoEscape"], unfollowed := true, recurses := true, apart := false, narrowed := true }
def BerNestsUptoSaid : Prop := berNestsUptoRow.holds Try.pinned (OpenSpec.upto berNestsSpec)

/-- 'palatinelaw09.BerWrites', WHERE WHAT IT READS IS OF BULK AT MOST 1048576: true; the input reads as it did. -/
def berWritesUptoRow : OpenClaim := { program := "ytbojbofakmihmaa", sum := "39379ba43206cd629f8eece0b3f271280b2be54d2fb49847fb5602f70376cceb", func := "palatine/palatinelaw09.BerWrites", spec := "berWrites", inPlace := ["internal/abi.NoEscape"], unfollowed := true, recurses := true, loops := true, apart := false, narrowed := true }
def BerWritesUptoSaid : Prop := berWritesUptoRow.holds Try.pinned (OpenSpec.upto berWritesSpec)

/-- 'palatinelaw11.MessageBack', WHERE WHAT IT READS IS OF BULK AT MOST 1048576: true; the input reads as it did. -/
def messageBackUptoRow : OpenClaim := { program := "ytbojbofakmihmaa", sum := "39379ba43206cd629f8eece0b3f271280b2be54d2fb49847fb5602f70376cceb", func := "palatine/palatinelaw11.MessageBack", spec := "messageBack", inPlace := ["internal/abi.NoEscape"], unfollowed := true, recurses := true, loops := true, apart := false, narrowed := true }
def MessageBackUptoSaid : Prop := messageBackUptoRow.holds Try.pinned (OpenSpec.upto messageBackSpec)

/-- 'palatinelaw11.MessageOnly', WHERE WHAT IT READS IS OF BULK AT MOST 1048576: true; the input reads as it did. -/
def messageOnlyUptoRow : OpenClaim := { program := "ytbojbofakmihmaa", sum := "39379ba43206cd629f8eece0b3f271280b2be54d2fb49847fb5602f70376cceb", func := "palatine/palatinelaw11.MessageOnly", spec := "messageOnly", inPlace := ["internal/abi.NoEscape"], unfollowed := true, recurses := true, apart := false, narrowed := true }
def MessageOnlyUptoSaid : Prop := messageOnlyUptoRow.holds Try.pinned (OpenSpec.upto messageOnlySpec)

/-- 'palatinelaw11.MessageWhole', WHERE WHAT IT READS IS OF BULK AT MOST 1048576: true; the input reads as it did. -/
def messageWholeUptoRow : OpenClaim := { program := "ytbojbofakmihmaa", sum := "39379ba43206cd629f8eece0b3f271280b2be54d2fb49847fb5602f70376cceb", func := "palatine/palatinelaw11.MessageWhole", spec := "messageWhole", inPlace := ["internal/abi.NoEscape"], unfollowed := true, recurses := true, loops := true, apart := false, narrowed := true }
def MessageWholeUptoSaid : Prop := messageWholeUptoRow.holds Try.pinned (OpenSpec.upto messageWholeSpec)

/-- 'palatinelaw11.MessageNests', WHERE WHAT IT READS IS OF BULK AT MOST 1048576: true; the input reads as it did. -/
def messageNestsUptoRow : OpenClaim := { program := "ytbojbofakmihmaa", sum := "39379ba43206cd629f8eece0b3f271280b2be54d2fb49847fb5602f70376cceb", func := "palatine/palatinelaw11.MessageNests", spec := "messageNests", inPlace := ["internal/abi.NoEscape"], unfollowed := true, recurses := true, apart := false, narrowed := true }
def MessageNestsUptoSaid : Prop := messageNestsUptoRow.holds Try.pinned (OpenSpec.upto messageNestsSpec)

end Rows
end Go.Proofs.Ytbojbofakmihmaa
