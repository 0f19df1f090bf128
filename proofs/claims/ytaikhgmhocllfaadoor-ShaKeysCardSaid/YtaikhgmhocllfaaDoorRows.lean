/-
  NARROWER THAN 'FOR EVERY INPUT', by the rows' own cells (each row's printed sentence says how): ShaSum: laid · ShaMac: laid · ShaParts: laid · ShaKeys: laid · SealPlays: laid · SealBack: laid · SealTorn: laid · SealIdeal: laid · SealHides: laid.
  DERIVED. THE GIVEN ROWS OF THIS SEAT. 9 by the template 'for every input the law returns true; each argument reads behind the call as it read before'; 0 by the template 'total and deterministic' (their statements: YtaikhgmhocllfaaDoorTotals.lean).
  GIVEN WITH THE SEED: the statements are not yours to turn. If you find one false, say at which input.
  Laid BY PROGRAM, IN A SANDBOX (cutbox-rows.mjs): the forced cells as the released guide's own fill.sh prints them over the translation 912d5c8799ed088f… (all of the seat's roots in one cut). By AI agents, Wed Nov 11 2026. No macro, syntax, notation, axiom, sorry.
-/
import Derived.Test.YtaikhgmhocllfaaDoorChecked
import GoSem.Claim
import GoSem.ClaimJoined
import GoSem.ClaimMapViews
import Derived.JoinedTies
import Derived.KernelRfl
namespace Go.Proofs.YtaikhgmhocllfaaDoor
/- THE CELL 'sum', in the pinned program and in every row, IS THE sha256 OF THE DUMP (.gsa) THAT YtaikhgmhocllfaaDoorProg.lean LOADS. Nothing in Lean hashes anything: it is a label: what it is worth is what the hold of that sum in a sandbox is worth. -/
noncomputable def Tryd.pinned : Pinned := { name := "ytaikhgmhocllfaadoor", sum := "912d5c8799ed088fd5dd3924a7bc4abeef01da221c8a34baa6590eab12f112c7", checked := Tryd.checked }
namespace Rows
def none {H : Type} : Left H := { results := [], args := [] }

/- WHAT THE LISTED PACKAGE-LEVEL VARIABLES READ AS WHEN THE CALL BEGINS. Each datum BY PROGRAM (the guide's laid-datum.mjs) off the statement by which the dump's own 'gosem.cut.vars' lays the variable. In a bare row this is a premise. The card (YtaikhgmhocllfaaDoorCards.lean) ties it to the program's text. -/
def laid_palatine_sha_first {H : Type} : DataW H := .agg [.lit (.int .u32 1779033703), .lit (.int .u32 3144134277), .lit (.int .u32 1013904242), .lit (.int .u32 2773480762), .lit (.int .u32 1359893119), .lit (.int .u32 2600822924), .lit (.int .u32 528734635), .lit (.int .u32 1541459225)]
def laid_palatine_sha_constants {H : Type} : DataW H := .agg [.lit (.int .u32 1116352408), .lit (.int .u32 1899447441), .lit (.int .u32 3049323471), .lit (.int .u32 3921009573), .lit (.int .u32 961987163), .lit (.int .u32 1508970993), .lit (.int .u32 2453635748), .lit (.int .u32 2870763221), .lit (.int .u32 3624381080), .lit (.int .u32 310598401), .lit (.int .u32 607225278), .lit (.int .u32 1426881987), .lit (.int .u32 1925078388), .lit (.int .u32 2162078206), .lit (.int .u32 2614888103), .lit (.int .u32 3248222580), .lit (.int .u32 3835390401), .lit (.int .u32 4022224774), .lit (.int .u32 264347078), .lit (.int .u32 604807628), .lit (.int .u32 770255983), .lit (.int .u32 1249150122), .lit (.int .u32 1555081692), .lit (.int .u32 1996064986), .lit (.int .u32 2554220882), .lit (.int .u32 2821834349), .lit (.int .u32 2952996808), .lit (.int .u32 3210313671), .lit (.int .u32 3336571891), .lit (.int .u32 3584528711), .lit (.int .u32 113926993), .lit (.int .u32 338241895), .lit (.int .u32 666307205), .lit (.int .u32 773529912), .lit (.int .u32 1294757372), .lit (.int .u32 1396182291), .lit (.int .u32 1695183700), .lit (.int .u32 1986661051), .lit (.int .u32 2177026350), .lit (.int .u32 2456956037), .lit (.int .u32 2730485921), .lit (.int .u32 2820302411), .lit (.int .u32 3259730800), .lit (.int .u32 3345764771), .lit (.int .u32 3516065817), .lit (.int .u32 3600352804), .lit (.int .u32 4094571909), .lit (.int .u32 275423344), .lit (.int .u32 430227734), .lit (.int .u32 506948616), .lit (.int .u32 659060556), .lit (.int .u32 883997877), .lit (.int .u32 958139571), .lit (.int .u32 1322822218), .lit (.int .u32 1537002063), .lit (.int .u32 1747873779), .lit (.int .u32 1955562222), .lit (.int .u32 2024104815), .lit (.int .u32 2227730452), .lit (.int .u32 2361852424), .lit (.int .u32 2428436474), .lit (.int .u32 2756734187), .lit (.int .u32 3204031479), .lit (.int .u32 3329325298)]

/-- 'palatinelaw07.ShaSum': WHATEVER THE INPUT: true; the input reads as it did. -/
def shaSumSpec : ChangeSpec := { name := "shaSum", fn := fun _ => fun
  | [d] => { results := [.lit (.bool true)], args := [d] }
  | _ => none }
def shaSumRow : OpenClaim := { program := "ytaikhgmhocllfaadoor", sum := "912d5c8799ed088fd5dd3924a7bc4abeef01da221c8a34baa6590eab12f112c7", func := "palatine/palatinelaw07.ShaSum", spec := "shaSum", unfollowed := true, recurses := true, named := ["palatine/sha.first", "palatine/sha.constants"], plainKeys := false, apart := false, laid := [("palatine/sha.first", laid_palatine_sha_first), ("palatine/sha.constants", laid_palatine_sha_constants)] }
def ShaSumSaid : Prop := shaSumRow.holds Tryd.pinned (OpenSpec.ofChange shaSumSpec)

/-- ITS FALSE NEIGHBOUR: 'it returns false'. Refute it at one input. -/
def shaSumWrong : ChangeSpec := { name := "shaSum", fn := fun _ => fun
  | [d] => { results := [.lit (.bool false)], args := [d] }
  | _ => none }
def ShaSumWrongFalsely : Prop := shaSumRow.holds Tryd.pinned (OpenSpec.ofChange shaSumWrong)

/-- 'palatinelaw07.ShaMac': WHATEVER THE INPUT: true; the input reads as it did. -/
def shaMacSpec : ChangeSpec := { name := "shaMac", fn := fun _ => fun
  | [d1, d2] => { results := [.lit (.bool true)], args := [d1, d2] }
  | _ => none }
def shaMacRow : OpenClaim := { program := "ytaikhgmhocllfaadoor", sum := "912d5c8799ed088fd5dd3924a7bc4abeef01da221c8a34baa6590eab12f112c7", func := "palatine/palatinelaw07.ShaMac", spec := "shaMac", unfollowed := true, recurses := true, named := ["palatine/sha.first", "palatine/sha.constants"], plainKeys := false, apart := false, laid := [("palatine/sha.first", laid_palatine_sha_first), ("palatine/sha.constants", laid_palatine_sha_constants)] }
def ShaMacSaid : Prop := shaMacRow.holds Tryd.pinned (OpenSpec.ofChange shaMacSpec)

/-- ITS FALSE NEIGHBOUR: 'it returns false'. Refute it at one input. -/
def shaMacWrong : ChangeSpec := { name := "shaMac", fn := fun _ => fun
  | [d1, d2] => { results := [.lit (.bool false)], args := [d1, d2] }
  | _ => none }
def ShaMacWrongFalsely : Prop := shaMacRow.holds Tryd.pinned (OpenSpec.ofChange shaMacWrong)

/-- 'palatinelaw07.ShaParts': WHATEVER THE INPUT: true; the input reads as it did. -/
def shaPartsSpec : ChangeSpec := { name := "shaParts", fn := fun _ => fun
  | [d] => { results := [.lit (.bool true)], args := [d] }
  | _ => none }
def shaPartsRow : OpenClaim := { program := "ytaikhgmhocllfaadoor", sum := "912d5c8799ed088fd5dd3924a7bc4abeef01da221c8a34baa6590eab12f112c7", func := "palatine/palatinelaw07.ShaParts", spec := "shaParts", unfollowed := true, recurses := true, named := ["palatine/sha.first", "palatine/sha.constants"], plainKeys := false, apart := false, laid := [("palatine/sha.first", laid_palatine_sha_first), ("palatine/sha.constants", laid_palatine_sha_constants)] }
def ShaPartsSaid : Prop := shaPartsRow.holds Tryd.pinned (OpenSpec.ofChange shaPartsSpec)

/-- ITS FALSE NEIGHBOUR: 'it returns false'. Refute it at one input. -/
def shaPartsWrong : ChangeSpec := { name := "shaParts", fn := fun _ => fun
  | [d] => { results := [.lit (.bool false)], args := [d] }
  | _ => none }
def ShaPartsWrongFalsely : Prop := shaPartsRow.holds Tryd.pinned (OpenSpec.ofChange shaPartsWrong)

/-- 'palatinelaw07.ShaKeys': WHATEVER THE INPUT: true; the input reads as it did. -/
def shaKeysSpec : ChangeSpec := { name := "shaKeys", fn := fun _ => fun
  | [d1, d2] => { results := [.lit (.bool true)], args := [d1, d2] }
  | _ => none }
def shaKeysRow : OpenClaim := { program := "ytaikhgmhocllfaadoor", sum := "912d5c8799ed088fd5dd3924a7bc4abeef01da221c8a34baa6590eab12f112c7", func := "palatine/palatinelaw07.ShaKeys", spec := "shaKeys", unfollowed := true, recurses := true, named := ["palatine/sha.first", "palatine/sha.constants"], plainKeys := false, apart := false, laid := [("palatine/sha.first", laid_palatine_sha_first), ("palatine/sha.constants", laid_palatine_sha_constants)] }
def ShaKeysSaid : Prop := shaKeysRow.holds Tryd.pinned (OpenSpec.ofChange shaKeysSpec)

/-- ITS FALSE NEIGHBOUR: 'it returns false'. Refute it at one input. -/
def shaKeysWrong : ChangeSpec := { name := "shaKeys", fn := fun _ => fun
  | [d1, d2] => { results := [.lit (.bool false)], args := [d1, d2] }
  | _ => none }
def ShaKeysWrongFalsely : Prop := shaKeysRow.holds Tryd.pinned (OpenSpec.ofChange shaKeysWrong)

/-- 'palatinelaw08.SealPlays': WHATEVER THE INPUT: true; the input reads as it did. -/
def sealPlaysSpec : ChangeSpec := { name := "sealPlays", fn := fun _ => fun
  | [d1, d2, d3, d4, d5] => { results := [.lit (.bool true)], args := [d1, d2, d3, d4, d5] }
  | _ => none }
def sealPlaysRow : OpenClaim := { program := "ytaikhgmhocllfaadoor", sum := "912d5c8799ed088fd5dd3924a7bc4abeef01da221c8a34baa6590eab12f112c7", func := "palatine/palatinelaw08.SealPlays", spec := "sealPlays", inPlace := ["internal/abi.NoEscape", "internal/bytealg.MakeNoZero"], unfollowed := true, recurses := true, named := ["palatine/sha.first", "palatine/sha.constants"], plainKeys := false, apart := false, laid := [("palatine/sha.first", laid_palatine_sha_first), ("palatine/sha.constants", laid_palatine_sha_constants)] }
def SealPlaysSaid : Prop := sealPlaysRow.holds Tryd.pinned (OpenSpec.ofChange sealPlaysSpec)

/-- ITS FALSE NEIGHBOUR: 'it returns false'. Refute it at one input. -/
def sealPlaysWrong : ChangeSpec := { name := "sealPlays", fn := fun _ => fun
  | [d1, d2, d3, d4, d5] => { results := [.lit (.bool false)], args := [d1, d2, d3, d4, d5] }
  | _ => none }
def SealPlaysWrongFalsely : Prop := sealPlaysRow.holds Tryd.pinned (OpenSpec.ofChange sealPlaysWrong)

/-- 'palatinelaw08.SealBack': WHATEVER THE INPUT: true; the input reads as it did. -/
def sealBackSpec : ChangeSpec := { name := "sealBack", fn := fun _ => fun
  | [d1, d2, d3, d4] => { results := [.lit (.bool true)], args := [d1, d2, d3, d4] }
  | _ => none }
def sealBackRow : OpenClaim := { program := "ytaikhgmhocllfaadoor", sum := "912d5c8799ed088fd5dd3924a7bc4abeef01da221c8a34baa6590eab12f112c7", func := "palatine/palatinelaw08.SealBack", spec := "sealBack", inPlace := ["internal/abi.NoEscape", "internal/bytealg.MakeNoZero"], unfollowed := true, recurses := true, named := ["palatine/sha.first", "palatine/sha.constants"], plainKeys := false, apart := false, laid := [("palatine/sha.first", laid_palatine_sha_first), ("palatine/sha.constants", laid_palatine_sha_constants)] }
def SealBackSaid : Prop := sealBackRow.holds Tryd.pinned (OpenSpec.ofChange sealBackSpec)

/-- ITS FALSE NEIGHBOUR: 'it returns false'. Refute it at one input. -/
def sealBackWrong : ChangeSpec := { name := "sealBack", fn := fun _ => fun
  | [d1, d2, d3, d4] => { results := [.lit (.bool false)], args := [d1, d2, d3, d4] }
  | _ => none }
def SealBackWrongFalsely : Prop := sealBackRow.holds Tryd.pinned (OpenSpec.ofChange sealBackWrong)

/-- 'palatinelaw08.SealTorn': WHATEVER THE INPUT: true; the input reads as it did. -/
def sealTornSpec : ChangeSpec := { name := "sealTorn", fn := fun _ => fun
  | [d1, d2, d3, d4, d5] => { results := [.lit (.bool true)], args := [d1, d2, d3, d4, d5] }
  | _ => none }
def sealTornRow : OpenClaim := { program := "ytaikhgmhocllfaadoor", sum := "912d5c8799ed088fd5dd3924a7bc4abeef01da221c8a34baa6590eab12f112c7", func := "palatine/palatinelaw08.SealTorn", spec := "sealTorn", inPlace := ["internal/abi.NoEscape", "internal/bytealg.MakeNoZero"], unfollowed := true, recurses := true, named := ["palatine/sha.first", "palatine/sha.constants"], plainKeys := false, apart := false, laid := [("palatine/sha.first", laid_palatine_sha_first), ("palatine/sha.constants", laid_palatine_sha_constants)] }
def SealTornSaid : Prop := sealTornRow.holds Tryd.pinned (OpenSpec.ofChange sealTornSpec)

/-- ITS FALSE NEIGHBOUR: 'it returns false'. Refute it at one input. -/
def sealTornWrong : ChangeSpec := { name := "sealTorn", fn := fun _ => fun
  | [d1, d2, d3, d4, d5] => { results := [.lit (.bool false)], args := [d1, d2, d3, d4, d5] }
  | _ => none }
def SealTornWrongFalsely : Prop := sealTornRow.holds Tryd.pinned (OpenSpec.ofChange sealTornWrong)

/-- 'palatinelaw08.SealIdeal': WHATEVER THE INPUT: true; the input reads as it did. -/
def sealIdealSpec : ChangeSpec := { name := "sealIdeal", fn := fun _ => fun
  | [d1, d2] => { results := [.lit (.bool true)], args := [d1, d2] }
  | _ => none }
def sealIdealRow : OpenClaim := { program := "ytaikhgmhocllfaadoor", sum := "912d5c8799ed088fd5dd3924a7bc4abeef01da221c8a34baa6590eab12f112c7", func := "palatine/palatinelaw08.SealIdeal", spec := "sealIdeal", inPlace := ["internal/abi.NoEscape", "internal/bytealg.MakeNoZero"], unfollowed := true, recurses := true, named := ["palatine/sha.first", "palatine/sha.constants"], plainKeys := false, apart := false, laid := [("palatine/sha.first", laid_palatine_sha_first), ("palatine/sha.constants", laid_palatine_sha_constants)] }
def SealIdealSaid : Prop := sealIdealRow.holds Tryd.pinned (OpenSpec.ofChange sealIdealSpec)

/-- ITS FALSE NEIGHBOUR: 'it returns false'. Refute it at one input. -/
def sealIdealWrong : ChangeSpec := { name := "sealIdeal", fn := fun _ => fun
  | [d1, d2] => { results := [.lit (.bool false)], args := [d1, d2] }
  | _ => none }
def SealIdealWrongFalsely : Prop := sealIdealRow.holds Tryd.pinned (OpenSpec.ofChange sealIdealWrong)

/-- 'palatinelaw08.SealHides': WHATEVER THE INPUT: true; the input reads as it did. -/
def sealHidesSpec : ChangeSpec := { name := "sealHides", fn := fun _ => fun
  | [d1, d2, d3, d4] => { results := [.lit (.bool true)], args := [d1, d2, d3, d4] }
  | _ => none }
def sealHidesRow : OpenClaim := { program := "ytaikhgmhocllfaadoor", sum := "912d5c8799ed088fd5dd3924a7bc4abeef01da221c8a34baa6590eab12f112c7", func := "palatine/palatinelaw08.SealHides", spec := "sealHides", inPlace := ["internal/abi.NoEscape", "internal/bytealg.MakeNoZero"], unfollowed := true, recurses := true, named := ["palatine/sha.first", "palatine/sha.constants"], plainKeys := false, apart := false, laid := [("palatine/sha.first", laid_palatine_sha_first), ("palatine/sha.constants", laid_palatine_sha_constants)] }
def SealHidesSaid : Prop := sealHidesRow.holds Tryd.pinned (OpenSpec.ofChange sealHidesSpec)

/-- ITS FALSE NEIGHBOUR: 'it returns false'. Refute it at one input. -/
def sealHidesWrong : ChangeSpec := { name := "sealHides", fn := fun _ => fun
  | [d1, d2, d3, d4] => { results := [.lit (.bool false)], args := [d1, d2, d3, d4] }
  | _ => none }
def SealHidesWrongFalsely : Prop := sealHidesRow.holds Tryd.pinned (OpenSpec.ofChange sealHidesWrong)

/- THE SECOND FORM. 'bulk': how many values and letters a reading holds, each counted each time it is reached (what is shared counts as often as it is met; a slice's spare places count too). A statement '..UptoSaid' is the law's where the arguments, and the package variables that the reading takes, are together of bulk at most 1048576: NARROWER than '..Said'. Prove '..Said' where nothing that the law and all that it calls make is longer than what came in: it says more and counts as full. Else prove '..UptoSaid'. A law counts once. -/
mutual
def uptoBulk {H : Type} : DataW H → Nat
  | .lit (.string bytes) => bytes.length + 1
  | .lit _ => 1
  | .nil => 1
  | .ptr d => uptoBulk d + 1
  | .slice elems spare => uptoBulkAll elems + uptoBulkAll spare + 1
  | .agg parts => uptoBulkAll parts + 1
  | .iface _ d => uptoBulk d + 1
  | .map entries => uptoBulkEntries entries + 1
  | .held _ => 1
def uptoBulkAll {H : Type} : List (DataW H) → Nat
  | [] => 0
  | d :: r => uptoBulk d + uptoBulkAll r
def uptoBulkEntries {H : Type} : List (Lit × DataW H) → Nat
  | [] => 0
  | x :: r => uptoBulkEntry x + uptoBulkEntries r
def uptoBulkEntry {H : Type} : Lit × DataW H → Nat
  | (.string bytes, d) => bytes.length + uptoBulk d + 1
  | (_, d) => uptoBulk d + 1
 end
def uptoSmall : (H : Type) → List (DataW H) → Bool := fun _ ds => decide (uptoBulkAll ds ≤ 1048576)
def OpenSpec.upto (s : _root_.Go.ChangeSpec) : _root_.Go.OpenSpec := { _root_.Go.OpenSpec.ofChange s with cond := some uptoSmall }

/-- 'palatinelaw07.ShaSum', WHERE WHAT IT READS IS OF BULK AT MOST 1048576: true; the input reads as it did. -/
def shaSumUptoRow : OpenClaim := { program := "ytaikhgmhocllfaadoor", sum := "912d5c8799ed088fd5dd3924a7bc4abeef01da221c8a34baa6590eab12f112c7", func := "palatine/palatinelaw07.ShaSum", spec := "shaSum", unfollowed := true, recurses := true, named := ["palatine/sha.first", "palatine/sha.constants"], plainKeys := false, apart := false, laid := [("palatine/sha.first", laid_palatine_sha_first), ("palatine/sha.constants", laid_palatine_sha_constants)], narrowed := true }
def ShaSumUptoSaid : Prop := shaSumUptoRow.holds Tryd.pinned (OpenSpec.upto shaSumSpec)

/-- 'palatinelaw07.ShaMac', WHERE WHAT IT READS IS OF BULK AT MOST 1048576: true; the input reads as it did. -/
def shaMacUptoRow : OpenClaim := { program := "ytaikhgmhocllfaadoor", sum := "912d5c8799ed088fd5dd3924a7bc4abeef01da221c8a34baa6590eab12f112c7", func := "palatine/palatinelaw07.ShaMac", spec := "shaMac", unfollowed := true, recurses := true, named := ["palatine/sha.first", "palatine/sha.constants"], plainKeys := false, apart := false, laid := [("palatine/sha.first", laid_palatine_sha_first), ("palatine/sha.constants", laid_palatine_sha_constants)], narrowed := true }
def ShaMacUptoSaid : Prop := shaMacUptoRow.holds Tryd.pinned (OpenSpec.upto shaMacSpec)

/-- 'palatinelaw07.ShaParts', WHERE WHAT IT READS IS OF BULK AT MOST 1048576: true; the input reads as it did. -/
def shaPartsUptoRow : OpenClaim := { program := "ytaikhgmhocllfaadoor", sum := "912d5c8799ed088fd5dd3924a7bc4abeef01da221c8a34baa6590eab12f112c7", func := "palatine/palatinelaw07.ShaParts", spec := "shaParts", unfollowed := true, recurses := true, named := ["palatine/sha.first", "palatine/sha.constants"], plainKeys := false, apart := false, laid := [("palatine/sha.first", laid_palatine_sha_first), ("palatine/sha.constants", laid_palatine_sha_constants)], narrowed := true }
def ShaPartsUptoSaid : Prop := shaPartsUptoRow.holds Tryd.pinned (OpenSpec.upto shaPartsSpec)

/-- 'palatinelaw07.ShaKeys', WHERE WHAT IT READS IS OF BULK AT MOST 1048576: true; the input reads as it did. -/
def shaKeysUptoRow : OpenClaim := { program := "ytaikhgmhocllfaadoor", sum := "912d5c8799ed088fd5dd3924a7bc4abeef01da221c8a34baa6590eab12f112c7", func := "palatine/palatinelaw07.ShaKeys", spec := "shaKeys", unfollowed := true, recurses := true, named := ["palatine/sha.first", "palatine/sha.constants"], plainKeys := false, apart := false, laid := [("palatine/sha.first", laid_palatine_sha_first), ("palatine/sha.constants", laid_palatine_sha_constants)], narrowed := true }
def ShaKeysUptoSaid : Prop := shaKeysUptoRow.holds Tryd.pinned (OpenSpec.upto shaKeysSpec)

/-- 'palatinelaw08.SealPlays', WHERE WHAT IT READS IS OF BULK AT MOST 1048576: true; the input reads as it did. -/
def sealPlaysUptoRow : OpenClaim := { program := "ytaikhgmhocllfaadoor", sum := "912d5c8799ed088fd5dd3924a7bc4abeef01da221c8a34baa6590eab12f112c7", func := "palatine/palatinelaw08.SealPlays", spec := "sealPlays", inPlace := ["internal/abi.NoEscape", "internal/bytealg.MakeNoZero"], unfollowed := true, recurses := true, named := ["palatine/sha.first", "palatine/sha.constants"], plainKeys := false, apart := false, laid := [("palatine/sha.first", laid_palatine_sha_first), ("palatine/sha.constants", laid_palatine_sha_constants)], narrowed := true }
def SealPlaysUptoSaid : Prop := sealPlaysUptoRow.holds Tryd.pinned (OpenSpec.upto sealPlaysSpec)

/-- 'palatinelaw08.SealBack', WHERE WHAT IT READS IS OF BULK AT MOST 1048576: true; the input reads as it did. -/
def sealBackUptoRow : OpenClaim := { program := "ytaikhgmhocllfaadoor", sum := "912d5c8799ed088fd5dd3924a7bc4abeef01da221c8a34baa6590eab12f112c7", func := "palatine/palatinelaw08.SealBack", spec := "sealBack", inPlace := ["internal/abi.NoEscape", "internal/bytealg.MakeNoZero"], unfollowed := true, recurses := true, named := ["palatine/sha.first", "palatine/sha.constants"], plainKeys := false, apart := false, laid := [("palatine/sha.first", laid_palatine_sha_first), ("palatine/sha.constants", laid_palatine_sha_constants)], narrowed := true }
def SealBackUptoSaid : Prop := sealBackUptoRow.holds Tryd.pinned (OpenSpec.upto sealBackSpec)

/-- 'palatinelaw08.SealTorn', WHERE WHAT IT READS IS OF BULK AT MOST 1048576: true; the input reads as it did. -/
def sealTornUptoRow : OpenClaim := { program := "ytaikhgmhocllfaadoor", sum := "912d5c8799ed088fd5dd3924a7bc4abeef01da221c8a34baa6590eab12f112c7", func := "palatine/palatinelaw08.SealTorn", spec := "sealTorn", inPlace := ["internal/abi.NoEscape", "internal/bytealg.MakeNoZero"], unfollowed := true, recurses := true, named := ["palatine/sha.first", "palatine/sha.constants"], plainKeys := false, apart := false, laid := [("palatine/sha.first", laid_palatine_sha_first), ("palatine/sha.constants", laid_palatine_sha_constants)], narrowed := true }
def SealTornUptoSaid : Prop := sealTornUptoRow.holds Tryd.pinned (OpenSpec.upto sealTornSpec)

/-- 'palatinelaw08.SealIdeal', WHERE WHAT IT READS IS OF BULK AT MOST 1048576: true; the input reads as it did. -/
def sealIdealUptoRow : OpenClaim := { program := "ytaikhgmhocllfaadoor", sum := "912d5c8799ed088fd5dd3924a7bc4abeef01da221c8a34baa6590eab12f112c7", func := "palatine/palatinelaw08.SealIdeal", spec := "sealIdeal", inPlace := ["internal/abi.NoEscape", "internal/bytealg.MakeNoZero"], unfollowed := true, recurses := true, named := ["palatine/sha.first", "palatine/sha.constants"], plainKeys := false, apart := false, laid := [("palatine/sha.first", laid_palatine_sha_first), ("palatine/sha.constants", laid_palatine_sha_constants)], narrowed := true }
def SealIdealUptoSaid : Prop := sealIdealUptoRow.holds Tryd.pinned (OpenSpec.upto sealIdealSpec)

/-- 'palatinelaw08.SealHides', WHERE WHAT IT READS IS OF BULK AT MOST 1048576: true; the input reads as it did. -/
def sealHidesUptoRow : OpenClaim := { program := "ytaikhgmhocllfaadoor", sum := "912d5c8799ed088fd5dd3924a7bc4abeef01da221c8a34baa6590eab12f112c7", func := "palatine/palatinelaw08.SealHides", spec := "sealHides", inPlace := ["internal/abi.NoEscape", "internal/bytealg.MakeNoZero"], unfollowed := true, recurses := true, named := ["palatine/sha.first", "palatine/sha.constants"], plainKeys := false, apart := false, laid := [("palatine/sha.first", laid_palatine_sha_first), ("palatine/sha.constants", laid_palatine_sha_constants)], narrowed := true }
def SealHidesUptoSaid : Prop := sealHidesUptoRow.holds Tryd.pinned (OpenSpec.upto sealHidesSpec)

end Rows
end Go.Proofs.YtaikhgmhocllfaaDoor
