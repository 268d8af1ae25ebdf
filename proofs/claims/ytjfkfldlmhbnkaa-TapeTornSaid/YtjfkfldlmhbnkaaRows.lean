/-
  No cell of these rows narrows 'for every input' (looked for: loops, veiled, ifaces, maps, wideKeys, modest, calm, conditions, laid).
  DERIVED. THE GIVEN ROWS OF THIS SEAT. 12 by the template 'for every input the law returns true; each argument reads behind the call as it read before'; 0 by the template 'total and deterministic' (their statements: YtjfkfldlmhbnkaaTotals.lean).
  GIVEN WITH THE SEED: the statements are not yours to turn. If you find one false, say at which input.
  Laid BY PROGRAM, IN A SANDBOX (cutbox-rows.mjs): the forced cells as the released guide's own fill.sh prints them over the translation 2f4990c59403af70… (all of the seat's roots in one cut). By AI agents, Wed Nov 11 2026. No macro, syntax, notation, axiom, sorry.
-/
import Derived.Test.YtjfkfldlmhbnkaaChecked
import GoSem.Claim
import GoSem.ClaimJoined
import GoSem.ClaimMapViews
import Derived.JoinedTies
import Derived.KernelRfl
namespace Go.Proofs.Ytjfkfldlmhbnkaa
/- THE CELL 'sum', in the pinned program and in every row, IS THE sha256 OF THE DUMP (.gsa) THAT YtjfkfldlmhbnkaaProg.lean LOADS. Nothing in Lean hashes anything: it is a label: what it is worth is what the hold of that sum in a sandbox is worth. -/
noncomputable def Try.pinned : Pinned := { name := "ytjfkfldlmhbnkaa", sum := "2f4990c59403af7060dce7090765938530d471b2e544dd91c0fe9a8eedc853bf", checked := Try.checked }
namespace Rows
def none {H : Type} : Left H := { results := [], args := [] }

/-- 'padlocklaw12.StampMarks': WHATEVER THE INPUT: true; the input reads as it did. -/
def stampMarksSpec : ChangeSpec := { name := "stampMarks", fn := fun _ => fun
  | [d1, d2, d3] => { results := [.lit (.bool true)], args := [d1, d2, d3] }
  | _ => none }
def stampMarksRow : OpenClaim := { program := "ytjfkfldlmhbnkaa", sum := "2f4990c59403af7060dce7090765938530d471b2e544dd91c0fe9a8eedc853bf", func := "padlock/padlocklaw12.StampMarks", spec := "stampMarks", inPlace := ["internal/abi.NoEscape", "internal/bytealg.MakeNoZero"], apart := false }
def StampMarksSaid : Prop := stampMarksRow.holds Try.pinned (OpenSpec.ofChange stampMarksSpec)

/-- ITS FALSE NEIGHBOUR: 'it returns false'. Refute it at one input. -/
def stampMarksWrong : ChangeSpec := { name := "stampMarks", fn := fun _ => fun
  | [d1, d2, d3] => { results := [.lit (.bool false)], args := [d1, d2, d3] }
  | _ => none }
def StampMarksWrongFalsely : Prop := stampMarksRow.holds Try.pinned (OpenSpec.ofChange stampMarksWrong)

/-- 'padlocklaw12.StampCuts': WHATEVER THE INPUT: true; the input reads as it did. -/
def stampCutsSpec : ChangeSpec := { name := "stampCuts", fn := fun _ => fun
  | [d1, d2, d3] => { results := [.lit (.bool true)], args := [d1, d2, d3] }
  | _ => none }
def stampCutsRow : OpenClaim := { program := "ytjfkfldlmhbnkaa", sum := "2f4990c59403af7060dce7090765938530d471b2e544dd91c0fe9a8eedc853bf", func := "padlock/padlocklaw12.StampCuts", spec := "stampCuts", inPlace := ["internal/abi.NoEscape", "internal/bytealg.MakeNoZero"], apart := false }
def StampCutsSaid : Prop := stampCutsRow.holds Try.pinned (OpenSpec.ofChange stampCutsSpec)

/-- ITS FALSE NEIGHBOUR: 'it returns false'. Refute it at one input. -/
def stampCutsWrong : ChangeSpec := { name := "stampCuts", fn := fun _ => fun
  | [d1, d2, d3] => { results := [.lit (.bool false)], args := [d1, d2, d3] }
  | _ => none }
def StampCutsWrongFalsely : Prop := stampCutsRow.holds Try.pinned (OpenSpec.ofChange stampCutsWrong)

/-- 'padlocklaw12.StampTorn': WHATEVER THE INPUT: true; the input reads as it did. -/
def stampTornSpec : ChangeSpec := { name := "stampTorn", fn := fun _ => fun
  | [d1, d2, d3] => { results := [.lit (.bool true)], args := [d1, d2, d3] }
  | _ => none }
def stampTornRow : OpenClaim := { program := "ytjfkfldlmhbnkaa", sum := "2f4990c59403af7060dce7090765938530d471b2e544dd91c0fe9a8eedc853bf", func := "padlock/padlocklaw12.StampTorn", spec := "stampTorn", inPlace := ["internal/abi.NoEscape", "internal/bytealg.MakeNoZero"], apart := false }
def StampTornSaid : Prop := stampTornRow.holds Try.pinned (OpenSpec.ofChange stampTornSpec)

/-- ITS FALSE NEIGHBOUR: 'it returns false'. Refute it at one input. -/
def stampTornWrong : ChangeSpec := { name := "stampTorn", fn := fun _ => fun
  | [d1, d2, d3] => { results := [.lit (.bool false)], args := [d1, d2, d3] }
  | _ => none }
def StampTornWrongFalsely : Prop := stampTornRow.holds Try.pinned (OpenSpec.ofChange stampTornWrong)

/-- 'padlocklaw12.StampBack': WHATEVER THE INPUT: true; the input reads as it did. -/
def stampBackSpec : ChangeSpec := { name := "stampBack", fn := fun _ => fun
  | [d1, d2, d3] => { results := [.lit (.bool true)], args := [d1, d2, d3] }
  | _ => none }
def stampBackRow : OpenClaim := { program := "ytjfkfldlmhbnkaa", sum := "2f4990c59403af7060dce7090765938530d471b2e544dd91c0fe9a8eedc853bf", func := "padlock/padlocklaw12.StampBack", spec := "stampBack", inPlace := ["internal/abi.NoEscape", "internal/bytealg.MakeNoZero"], apart := false }
def StampBackSaid : Prop := stampBackRow.holds Try.pinned (OpenSpec.ofChange stampBackSpec)

/-- ITS FALSE NEIGHBOUR: 'it returns false'. Refute it at one input. -/
def stampBackWrong : ChangeSpec := { name := "stampBack", fn := fun _ => fun
  | [d1, d2, d3] => { results := [.lit (.bool false)], args := [d1, d2, d3] }
  | _ => none }
def StampBackWrongFalsely : Prop := stampBackRow.holds Try.pinned (OpenSpec.ofChange stampBackWrong)

/-- 'padlocklaw16.RootSeals': WHATEVER THE INPUT: true; the input reads as it did. -/
def rootSealsSpec : ChangeSpec := { name := "rootSeals", fn := fun _ => fun
  | [d1, d2, d3] => { results := [.lit (.bool true)], args := [d1, d2, d3] }
  | _ => none }
def rootSealsRow : OpenClaim := { program := "ytjfkfldlmhbnkaa", sum := "2f4990c59403af7060dce7090765938530d471b2e544dd91c0fe9a8eedc853bf", func := "padlock/padlocklaw16.RootSeals", spec := "rootSeals", inPlace := ["internal/abi.NoEscape", "internal/bytealg.MakeNoZero"], apart := false }
def RootSealsSaid : Prop := rootSealsRow.holds Try.pinned (OpenSpec.ofChange rootSealsSpec)

/-- ITS FALSE NEIGHBOUR: 'it returns false'. Refute it at one input. -/
def rootSealsWrong : ChangeSpec := { name := "rootSeals", fn := fun _ => fun
  | [d1, d2, d3] => { results := [.lit (.bool false)], args := [d1, d2, d3] }
  | _ => none }
def RootSealsWrongFalsely : Prop := rootSealsRow.holds Try.pinned (OpenSpec.ofChange rootSealsWrong)

/-- 'padlocklaw16.RootOpens': WHATEVER THE INPUT: true; the input reads as it did. -/
def rootOpensSpec : ChangeSpec := { name := "rootOpens", fn := fun _ => fun
  | [d1, d2] => { results := [.lit (.bool true)], args := [d1, d2] }
  | _ => none }
def rootOpensRow : OpenClaim := { program := "ytjfkfldlmhbnkaa", sum := "2f4990c59403af7060dce7090765938530d471b2e544dd91c0fe9a8eedc853bf", func := "padlock/padlocklaw16.RootOpens", spec := "rootOpens", inPlace := ["internal/abi.NoEscape", "internal/bytealg.MakeNoZero"], apart := false }
def RootOpensSaid : Prop := rootOpensRow.holds Try.pinned (OpenSpec.ofChange rootOpensSpec)

/-- ITS FALSE NEIGHBOUR: 'it returns false'. Refute it at one input. -/
def rootOpensWrong : ChangeSpec := { name := "rootOpens", fn := fun _ => fun
  | [d1, d2] => { results := [.lit (.bool false)], args := [d1, d2] }
  | _ => none }
def RootOpensWrongFalsely : Prop := rootOpensRow.holds Try.pinned (OpenSpec.ofChange rootOpensWrong)

/-- 'padlocklaw16.RootTears': WHATEVER THE INPUT: true; the input reads as it did. -/
def rootTearsSpec : ChangeSpec := { name := "rootTears", fn := fun _ => fun
  | [d1, d2, d3] => { results := [.lit (.bool true)], args := [d1, d2, d3] }
  | _ => none }
def rootTearsRow : OpenClaim := { program := "ytjfkfldlmhbnkaa", sum := "2f4990c59403af7060dce7090765938530d471b2e544dd91c0fe9a8eedc853bf", func := "padlock/padlocklaw16.RootTears", spec := "rootTears", inPlace := ["internal/abi.NoEscape", "internal/bytealg.MakeNoZero"], apart := false }
def RootTearsSaid : Prop := rootTearsRow.holds Try.pinned (OpenSpec.ofChange rootTearsSpec)

/-- ITS FALSE NEIGHBOUR: 'it returns false'. Refute it at one input. -/
def rootTearsWrong : ChangeSpec := { name := "rootTears", fn := fun _ => fun
  | [d1, d2, d3] => { results := [.lit (.bool false)], args := [d1, d2, d3] }
  | _ => none }
def RootTearsWrongFalsely : Prop := rootTearsRow.holds Try.pinned (OpenSpec.ofChange rootTearsWrong)

/-- 'padlocklaw16.RootBack': WHATEVER THE INPUT: true; the input reads as it did. -/
def rootBackSpec : ChangeSpec := { name := "rootBack", fn := fun _ => fun
  | [d1, d2, d3] => { results := [.lit (.bool true)], args := [d1, d2, d3] }
  | _ => none }
def rootBackRow : OpenClaim := { program := "ytjfkfldlmhbnkaa", sum := "2f4990c59403af7060dce7090765938530d471b2e544dd91c0fe9a8eedc853bf", func := "padlock/padlocklaw16.RootBack", spec := "rootBack", inPlace := ["internal/abi.NoEscape", "internal/bytealg.MakeNoZero"], apart := false }
def RootBackSaid : Prop := rootBackRow.holds Try.pinned (OpenSpec.ofChange rootBackSpec)

/-- ITS FALSE NEIGHBOUR: 'it returns false'. Refute it at one input. -/
def rootBackWrong : ChangeSpec := { name := "rootBack", fn := fun _ => fun
  | [d1, d2, d3] => { results := [.lit (.bool false)], args := [d1, d2, d3] }
  | _ => none }
def RootBackWrongFalsely : Prop := rootBackRow.holds Try.pinned (OpenSpec.ofChange rootBackWrong)

/-- 'padlocklaw17.TapeLays': WHATEVER THE INPUT: true; the input reads as it did. -/
def tapeLaysSpec : ChangeSpec := { name := "tapeLays", fn := fun _ => fun
  | [d1, d2] => { results := [.lit (.bool true)], args := [d1, d2] }
  | _ => none }
def tapeLaysRow : OpenClaim := { program := "ytjfkfldlmhbnkaa", sum := "2f4990c59403af7060dce7090765938530d471b2e544dd91c0fe9a8eedc853bf", func := "padlock/padlocklaw17.TapeLays", spec := "tapeLays", inPlace := ["internal/abi.NoEscape", "internal/bytealg.MakeNoZero"], unfollowed := true, recurses := true, apart := false }
def TapeLaysSaid : Prop := tapeLaysRow.holds Try.pinned (OpenSpec.ofChange tapeLaysSpec)

/-- ITS FALSE NEIGHBOUR: 'it returns false'. Refute it at one input. -/
def tapeLaysWrong : ChangeSpec := { name := "tapeLays", fn := fun _ => fun
  | [d1, d2] => { results := [.lit (.bool false)], args := [d1, d2] }
  | _ => none }
def TapeLaysWrongFalsely : Prop := tapeLaysRow.holds Try.pinned (OpenSpec.ofChange tapeLaysWrong)

/-- 'padlocklaw17.TapeScans': WHATEVER THE INPUT: true; the input reads as it did. -/
def tapeScansSpec : ChangeSpec := { name := "tapeScans", fn := fun _ => fun
  | [d1, d2] => { results := [.lit (.bool true)], args := [d1, d2] }
  | _ => none }
def tapeScansRow : OpenClaim := { program := "ytjfkfldlmhbnkaa", sum := "2f4990c59403af7060dce7090765938530d471b2e544dd91c0fe9a8eedc853bf", func := "padlock/padlocklaw17.TapeScans", spec := "tapeScans", inPlace := ["internal/abi.NoEscape", "internal/bytealg.MakeNoZero"], unfollowed := true, recurses := true, apart := false }
def TapeScansSaid : Prop := tapeScansRow.holds Try.pinned (OpenSpec.ofChange tapeScansSpec)

/-- ITS FALSE NEIGHBOUR: 'it returns false'. Refute it at one input. -/
def tapeScansWrong : ChangeSpec := { name := "tapeScans", fn := fun _ => fun
  | [d1, d2] => { results := [.lit (.bool false)], args := [d1, d2] }
  | _ => none }
def TapeScansWrongFalsely : Prop := tapeScansRow.holds Try.pinned (OpenSpec.ofChange tapeScansWrong)

/-- 'padlocklaw17.TapeBack': WHATEVER THE INPUT: true; the input reads as it did. -/
def tapeBackSpec : ChangeSpec := { name := "tapeBack", fn := fun _ => fun
  | [d1, d2, d3] => { results := [.lit (.bool true)], args := [d1, d2, d3] }
  | _ => none }
def tapeBackRow : OpenClaim := { program := "ytjfkfldlmhbnkaa", sum := "2f4990c59403af7060dce7090765938530d471b2e544dd91c0fe9a8eedc853bf", func := "padlock/padlocklaw17.TapeBack", spec := "tapeBack", inPlace := ["internal/abi.NoEscape", "internal/bytealg.MakeNoZero"], unfollowed := true, recurses := true, apart := false }
def TapeBackSaid : Prop := tapeBackRow.holds Try.pinned (OpenSpec.ofChange tapeBackSpec)

/-- ITS FALSE NEIGHBOUR: 'it returns false'. Refute it at one input. -/
def tapeBackWrong : ChangeSpec := { name := "tapeBack", fn := fun _ => fun
  | [d1, d2, d3] => { results := [.lit (.bool false)], args := [d1, d2, d3] }
  | _ => none }
def TapeBackWrongFalsely : Prop := tapeBackRow.holds Try.pinned (OpenSpec.ofChange tapeBackWrong)

/-- 'padlocklaw17.TapeTorn': WHATEVER THE INPUT: true; the input reads as it did. -/
def tapeTornSpec : ChangeSpec := { name := "tapeTorn", fn := fun _ => fun
  | [d1, d2, d3] => { results := [.lit (.bool true)], args := [d1, d2, d3] }
  | _ => none }
def tapeTornRow : OpenClaim := { program := "ytjfkfldlmhbnkaa", sum := "2f4990c59403af7060dce7090765938530d471b2e544dd91c0fe9a8eedc853bf", func := "padlock/padlocklaw17.TapeTorn", spec := "tapeTorn", inPlace := ["internal/abi.NoEscape", "internal/bytealg.MakeNoZero"], unfollowed := true, recurses := true, apart := false }
def TapeTornSaid : Prop := tapeTornRow.holds Try.pinned (OpenSpec.ofChange tapeTornSpec)

/-- ITS FALSE NEIGHBOUR: 'it returns false'. Refute it at one input. -/
def tapeTornWrong : ChangeSpec := { name := "tapeTorn", fn := fun _ => fun
  | [d1, d2, d3] => { results := [.lit (.bool false)], args := [d1, d2, d3] }
  | _ => none }
def TapeTornWrongFalsely : Prop := tapeTornRow.holds Try.pinned (OpenSpec.ofChange tapeTornWrong)

/- THE SECOND FORM. 'bulk': how many values and letters a reading holds, each counted each time it is reached (what is shared counts as often as it is met; a slice's spare places count too). A statement '..UptoSaid' is the law's where the arguments, and the package variables that the reading takes, are together of bulk at most 1048576: NARROWER than '..Said'. Prove '..Said' where nothing that the law and all that it calls make is longer than what came in: it says more and counts as full. Else prove '..UptoSaid'. A law counts once. -/
mutual
def uptoBulk {H : Type} : DataW H → Nat
  | .lit (.string bytes) => bytes.length + 1
  | .lit _ => 1
  | .nil => 1
  | .ptr d => uptoBulk d + 1
  | .slice elems spare => uptoBulkAll elems + uptoBulkAll spare + 1
  | .agg parts => uptoBulkAll parts + 1
  | .iface _ d => uptoBulk d + 1
  | .map entries => uptoBulkEntries entries + 1
  | .held _ => 1
def uptoBulkAll {H : Type} : List (DataW H) → Nat
  | [] => 0
  | d :: r => uptoBulk d + uptoBulkAll r
def uptoBulkEntries {H : Type} : List (Lit × DataW H) → Nat
  | [] => 0
  | x :: r => uptoBulkEntry x + uptoBulkEntries r
def uptoBulkEntry {H : Type} : Lit × DataW H → Nat
  | (.string bytes, d) => bytes.length + uptoBulk d + 1
  | (_, d) => uptoBulk d + 1
 end
def uptoSmall : (H : Type) → List (DataW H) → Bool := fun _ ds => decide (uptoBulkAll ds ≤ 1048576)
def OpenSpec.upto (s : _root_.Go.ChangeSpec) : _root_.Go.OpenSpec := { _root_.Go.OpenSpec.ofChange s with cond := some uptoSmall }

/-- 'padlocklaw12.StampMarks', WHERE WHAT IT READS IS OF BULK AT MOST 1048576: true; the input reads as it did. -/
def stampMarksUptoRow : OpenClaim := { program := "ytjfkfldlmhbnkaa", sum := "2f4990c59403af7060dce7090765938530d471b2e544dd91c0fe9a8eedc853bf", func := "padlock/padlocklaw12.StampMarks", spec := "stampMarks", inPlace := ["internal/abi.NoEscape", "internal/bytealg.MakeNoZero"], apart := false, narrowed := true }
def StampMarksUptoSaid : Prop := stampMarksUptoRow.holds Try.pinned (OpenSpec.upto stampMarksSpec)

/-- 'padlocklaw12.StampCuts', WHERE WHAT IT READS IS OF BULK AT MOST 1048576: true; the input reads as it did. -/
def stampCutsUptoRow : OpenClaim := { program := "ytjfkfldlmhbnkaa", sum := "2f4990c59403af7060dce7090765938530d471b2e544dd91c0fe9a8eedc853bf", func := "padlock/padlocklaw12.StampCuts", spec := "stampCuts", inPlace := ["internal/abi.NoEscape", "internal/bytealg.MakeNoZero"], apart := false, narrowed := true }
def StampCutsUptoSaid : Prop := stampCutsUptoRow.holds Try.pinned (OpenSpec.upto stampCutsSpec)

/-- 'padlocklaw12.StampTorn', WHERE WHAT IT READS IS OF BULK AT MOST 1048576: true; the input reads as it did. -/
def stampTornUptoRow : OpenClaim := { program := "ytjfkfldlmhbnkaa", sum := "2f4990c59403af7060dce7090765938530d471b2e544dd91c0fe9a8eedc853bf", func := "padlock/padlocklaw12.StampTorn", spec := "stampTorn", inPlace := ["internal/abi.NoEscape", "internal/bytealg.MakeNoZero"], apart := false, narrowed := true }
def StampTornUptoSaid : Prop := stampTornUptoRow.holds Try.pinned (OpenSpec.upto stampTornSpec)

/-- 'padlocklaw12.StampBack', WHERE WHAT IT READS IS OF BULK AT MOST 1048576: true; the input reads as it did. -/
def stampBackUptoRow : OpenClaim := { program := "ytjfkfldlmhbnkaa", sum := "2f4990c59403af7060dce7090765938530d471b2e544dd91c0fe9a8eedc853bf", func := "padlock/padlocklaw12.StampBack", spec := "stampBack", inPlace := ["internal/abi.NoEscape", "internal/bytealg.MakeNoZero"], apart := false, narrowed := true }
def StampBackUptoSaid : Prop := stampBackUptoRow.holds Try.pinned (OpenSpec.upto stampBackSpec)

/-- 'padlocklaw16.RootSeals', WHERE WHAT IT READS IS OF BULK AT MOST 1048576: true; the input reads as it did. -/
def rootSealsUptoRow : OpenClaim := { program := "ytjfkfldlmhbnkaa", sum := "2f4990c59403af7060dce7090765938530d471b2e544dd91c0fe9a8eedc853bf", func := "padlock/padlocklaw16.RootSeals", spec := "rootSeals", inPlace := ["internal/abi.NoEscape", "internal/bytealg.MakeNoZero"], apart := false, narrowed := true }
def RootSealsUptoSaid : Prop := rootSealsUptoRow.holds Try.pinned (OpenSpec.upto rootSealsSpec)

/-- 'padlocklaw16.RootOpens', WHERE WHAT IT READS IS OF BULK AT MOST 1048576: true; the input reads as it did. -/
def rootOpensUptoRow : OpenClaim := { program := "ytjfkfldlmhbnkaa", sum := "2f4990c59403af7060dce7090765938530d471b2e544dd91c0fe9a8eedc853bf", func := "padlock/padlocklaw16.RootOpens", spec := "rootOpens", inPlace := ["internal/abi.NoEscape", "internal/bytealg.MakeNoZero"], apart := false, narrowed := true }
def RootOpensUptoSaid : Prop := rootOpensUptoRow.holds Try.pinned (OpenSpec.upto rootOpensSpec)

/-- 'padlocklaw16.RootTears', WHERE WHAT IT READS IS OF BULK AT MOST 1048576: true; the input reads as it did. -/
def rootTearsUptoRow : OpenClaim := { program := "ytjfkfldlmhbnkaa", sum := "2f4990c59403af7060dce7090765938530d471b2e544dd91c0fe9a8eedc853bf", func := "padlock/padlocklaw16.RootTears", spec := "rootTears", inPlace := ["internal/abi.NoEscape", "internal/bytealg.MakeNoZero"], apart := false, narrowed := true }
def RootTearsUptoSaid : Prop := rootTearsUptoRow.holds Try.pinned (OpenSpec.upto rootTearsSpec)

/-- 'padlocklaw16.RootBack', WHERE WHAT IT READS IS OF BULK AT MOST 1048576: true; the input reads as it did. -/
def rootBackUptoRow : OpenClaim := { program := "ytjfkfldlmhbnkaa", sum := "2f4990c59403af7060dce7090765938530d471b2e544dd91c0fe9a8eedc853bf", func := "padlock/padlocklaw16.RootBack", spec := "rootBack", inPlace := ["internal/abi.NoEscape", "internal/bytealg.MakeNoZero"], apart := false, narrowed := true }
def RootBackUptoSaid : Prop := rootBackUptoRow.holds Try.pinned (OpenSpec.upto rootBackSpec)

/-- 'padlocklaw17.TapeLays', WHERE WHAT IT READS IS OF BULK AT MOST 1048576: true; the input reads as it did. -/
def tapeLaysUptoRow : OpenClaim := { program := "ytjfkfldlmhbnkaa", sum := "2f4990c59403af7060dce7090765938530d471b2e544dd91c0fe9a8eedc853bf", func := "padlock/padlocklaw17.TapeLays", spec := "tapeLays", inPlace := ["internal/abi.NoEscape", "internal/bytealg.MakeNoZero"], unfollowed := true, recurses := true, apart := false, narrowed := true }
def TapeLaysUptoSaid : Prop := tapeLaysUptoRow.holds Try.pinned (OpenSpec.upto tapeLaysSpec)

/-- 'padlocklaw17.TapeScans', WHERE WHAT IT READS IS OF BULK AT MOST 1048576: true; the input reads as it did. -/
def tapeScansUptoRow : OpenClaim := { program := "ytjfkfldlmhbnkaa", sum := "2f4990c59403af7060dce7090765938530d471b2e544dd91c0fe9a8eedc853bf", func := "padlock/padlocklaw17.TapeScans", spec := "tapeScans", inPlace := ["internal/abi.NoEscape", "internal/bytealg.MakeNoZero"], unfollowed := true, recurses := true, apart := false, narrowed := true }
def TapeScansUptoSaid : Prop := tapeScansUptoRow.holds Try.pinned (OpenSpec.upto tapeScansSpec)

/-- 'padlocklaw17.TapeBack', WHERE WHAT IT READS IS OF BULK AT MOST 1048576: true; the input reads as it did. -/
def tapeBackUptoRow : OpenClaim := { program := "ytjfkfldlmhbnkaa", sum := "2f4990c59403af7060dce7090765938530d471b2e544dd91c0fe9a8eedc853bf", func := "padlock/padlocklaw17.TapeBack", spec := "tapeBack", inPlace := ["internal/abi.NoEscape", "internal/bytealg.MakeNoZero"], unfollowed := true, recurses := true, apart := false, narrowed := true }
def TapeBackUptoSaid : Prop := tapeBackUptoRow.holds Try.pinned (OpenSpec.upto tapeBackSpec)

/-- 'padlocklaw17.TapeTorn', WHERE WHAT IT READS IS OF BULK AT MOST 1048576: true; the input reads as it did. -/
def tapeTornUptoRow : OpenClaim := { program := "ytjfkfldlmhbnkaa", sum := "2f4990c59403af7060dce7090765938530d471b2e544dd91c0fe9a8eedc853bf", func := "padlock/padlocklaw17.TapeTorn", spec := "tapeTorn", inPlace := ["internal/abi.NoEscape", "internal/bytealg.MakeNoZero"], unfollowed := true, recurses := true, apart := false, narrowed := true }
def TapeTornUptoSaid : Prop := tapeTornUptoRow.holds Try.pinned (OpenSpec.upto tapeTornSpec)

end Rows
end Go.Proofs.Ytjfkfldlmhbnkaa
