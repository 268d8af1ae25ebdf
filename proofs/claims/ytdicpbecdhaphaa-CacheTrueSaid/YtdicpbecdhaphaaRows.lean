/-
  No cell of these rows narrows 'for every input' (looked for: loops, veiled, ifaces, maps, wideKeys, modest, calm, conditions, laid).
  DERIVED. THE GIVEN ROWS OF THIS SEAT. 8 by the template 'for every input the law returns true; each argument reads behind the call as it read before'; 0 by the template 'total and deterministic' (their statements: YtdicpbecdhaphaaTotals.lean).
  GIVEN WITH THE SEED: the statements are not yours to turn. If you find one false, say at which input.
  Laid BY PROGRAM, IN A SANDBOX (cutbox-rows.mjs): the forced cells as the released guide's own fill.sh prints them over the translation 068878828af27465… (all of the seat's roots in one cut). By AI agents, Wed Nov 11 2026. No macro, syntax, notation, axiom, sorry.
-/
import Derived.Test.YtdicpbecdhaphaaChecked
import GoSem.Claim
import GoSem.ClaimJoined
import GoSem.ClaimMapViews
import Derived.JoinedTies
import Derived.KernelRfl
namespace Go.Proofs.Ytdicpbecdhaphaa
/- THE CELL 'sum', in the pinned program and in every row, IS THE sha256 OF THE DUMP (.gsa) THAT YtdicpbecdhaphaaProg.lean LOADS. Nothing in Lean hashes anything: it is a label: what it is worth is what the hold of that sum in a sandbox is worth. -/
noncomputable def Try.pinned : Pinned := { name := "ytdicpbecdhaphaa", sum := "068878828af27465afd4478110d78209c8ccb2c8ac710054ee31e77803d74690", checked := Try.checked }
namespace Rows
def none {H : Type} : Left H := { results := [], args := [] }

/-- 'padlocklaw14.TreeDoes': WHATEVER THE INPUT: true; the input reads as it did. -/
def treeDoesSpec : ChangeSpec := { name := "treeDoes", fn := fun _ => fun
  | [d] => { results := [.lit (.bool true)], args := [d] }
  | _ => none }
def treeDoesRow : OpenClaim := { program := "ytdicpbecdhaphaa", sum := "068878828af27465afd4478110d78209c8ccb2c8ac710054ee31e77803d74690", func := "padlock/padlocklaw14.TreeDoes", spec := "treeDoes", unfollowed := true, recurses := true, apart := false }
def TreeDoesSaid : Prop := treeDoesRow.holds Try.pinned (OpenSpec.ofChange treeDoesSpec)

/-- ITS FALSE NEIGHBOUR: 'it returns false'. Refute it at one input. -/
def treeDoesWrong : ChangeSpec := { name := "treeDoes", fn := fun _ => fun
  | [d] => { results := [.lit (.bool false)], args := [d] }
  | _ => none }
def TreeDoesWrongFalsely : Prop := treeDoesRow.holds Try.pinned (OpenSpec.ofChange treeDoesWrong)

/-- 'padlocklaw14.TreeAsks': WHATEVER THE INPUT: true; the input reads as it did. -/
def treeAsksSpec : ChangeSpec := { name := "treeAsks", fn := fun _ => fun
  | [d1, d2, d3] => { results := [.lit (.bool true)], args := [d1, d2, d3] }
  | _ => none }
def treeAsksRow : OpenClaim := { program := "ytdicpbecdhaphaa", sum := "068878828af27465afd4478110d78209c8ccb2c8ac710054ee31e77803d74690", func := "padlock/padlocklaw14.TreeAsks", spec := "treeAsks", unfollowed := true, recurses := true, apart := false }
def TreeAsksSaid : Prop := treeAsksRow.holds Try.pinned (OpenSpec.ofChange treeAsksSpec)

/-- ITS FALSE NEIGHBOUR: 'it returns false'. Refute it at one input. -/
def treeAsksWrong : ChangeSpec := { name := "treeAsks", fn := fun _ => fun
  | [d1, d2, d3] => { results := [.lit (.bool false)], args := [d1, d2, d3] }
  | _ => none }
def TreeAsksWrongFalsely : Prop := treeAsksRow.holds Try.pinned (OpenSpec.ofChange treeAsksWrong)

/-- 'padlocklaw14.TreeFlat': WHATEVER THE INPUT: true; the input reads as it did. -/
def treeFlatSpec : ChangeSpec := { name := "treeFlat", fn := fun _ => fun
  | [d1, d2, d3] => { results := [.lit (.bool true)], args := [d1, d2, d3] }
  | _ => none }
def treeFlatRow : OpenClaim := { program := "ytdicpbecdhaphaa", sum := "068878828af27465afd4478110d78209c8ccb2c8ac710054ee31e77803d74690", func := "padlock/padlocklaw14.TreeFlat", spec := "treeFlat", unfollowed := true, recurses := true, apart := false }
def TreeFlatSaid : Prop := treeFlatRow.holds Try.pinned (OpenSpec.ofChange treeFlatSpec)

/-- ITS FALSE NEIGHBOUR: 'it returns false'. Refute it at one input. -/
def treeFlatWrong : ChangeSpec := { name := "treeFlat", fn := fun _ => fun
  | [d1, d2, d3] => { results := [.lit (.bool false)], args := [d1, d2, d3] }
  | _ => none }
def TreeFlatWrongFalsely : Prop := treeFlatRow.holds Try.pinned (OpenSpec.ofChange treeFlatWrong)

/-- 'padlocklaw14.TreeStays': WHATEVER THE INPUT: true; the input reads as it did. -/
def treeStaysSpec : ChangeSpec := { name := "treeStays", fn := fun _ => fun
  | [d1, d2] => { results := [.lit (.bool true)], args := [d1, d2] }
  | _ => none }
def treeStaysRow : OpenClaim := { program := "ytdicpbecdhaphaa", sum := "068878828af27465afd4478110d78209c8ccb2c8ac710054ee31e77803d74690", func := "padlock/padlocklaw14.TreeStays", spec := "treeStays", unfollowed := true, recurses := true, apart := false }
def TreeStaysSaid : Prop := treeStaysRow.holds Try.pinned (OpenSpec.ofChange treeStaysSpec)

/-- ITS FALSE NEIGHBOUR: 'it returns false'. Refute it at one input. -/
def treeStaysWrong : ChangeSpec := { name := "treeStays", fn := fun _ => fun
  | [d1, d2] => { results := [.lit (.bool false)], args := [d1, d2] }
  | _ => none }
def TreeStaysWrongFalsely : Prop := treeStaysRow.holds Try.pinned (OpenSpec.ofChange treeStaysWrong)

/-- 'padlocklaw14.TreeParts': WHATEVER THE INPUT: true; the input reads as it did. -/
def treePartsSpec : ChangeSpec := { name := "treeParts", fn := fun _ => fun
  | [d1, d2] => { results := [.lit (.bool true)], args := [d1, d2] }
  | _ => none }
def treePartsRow : OpenClaim := { program := "ytdicpbecdhaphaa", sum := "068878828af27465afd4478110d78209c8ccb2c8ac710054ee31e77803d74690", func := "padlock/padlocklaw14.TreeParts", spec := "treeParts", unfollowed := true, recurses := true, apart := false }
def TreePartsSaid : Prop := treePartsRow.holds Try.pinned (OpenSpec.ofChange treePartsSpec)

/-- ITS FALSE NEIGHBOUR: 'it returns false'. Refute it at one input. -/
def treePartsWrong : ChangeSpec := { name := "treeParts", fn := fun _ => fun
  | [d1, d2] => { results := [.lit (.bool false)], args := [d1, d2] }
  | _ => none }
def TreePartsWrongFalsely : Prop := treePartsRow.holds Try.pinned (OpenSpec.ofChange treePartsWrong)

/-- 'padlocklaw13.BatchTouches': WHATEVER THE INPUT: true; the input reads as it did. -/
def batchTouchesSpec : ChangeSpec := { name := "batchTouches", fn := fun _ => fun
  | [d1, d2, d3] => { results := [.lit (.bool true)], args := [d1, d2, d3] }
  | _ => none }
def batchTouchesRow : OpenClaim := { program := "ytdicpbecdhaphaa", sum := "068878828af27465afd4478110d78209c8ccb2c8ac710054ee31e77803d74690", func := "padlock/padlocklaw13.BatchTouches", spec := "batchTouches", apart := false }
def BatchTouchesSaid : Prop := batchTouchesRow.holds Try.pinned (OpenSpec.ofChange batchTouchesSpec)

/-- ITS FALSE NEIGHBOUR: 'it returns false'. Refute it at one input. -/
def batchTouchesWrong : ChangeSpec := { name := "batchTouches", fn := fun _ => fun
  | [d1, d2, d3] => { results := [.lit (.bool false)], args := [d1, d2, d3] }
  | _ => none }
def BatchTouchesWrongFalsely : Prop := batchTouchesRow.holds Try.pinned (OpenSpec.ofChange batchTouchesWrong)

/-- 'padlocklaw13.BatchBack': WHATEVER THE INPUT: true; the input reads as it did. -/
def batchBackSpec : ChangeSpec := { name := "batchBack", fn := fun _ => fun
  | [d1, d2, d3] => { results := [.lit (.bool true)], args := [d1, d2, d3] }
  | _ => none }
def batchBackRow : OpenClaim := { program := "ytdicpbecdhaphaa", sum := "068878828af27465afd4478110d78209c8ccb2c8ac710054ee31e77803d74690", func := "padlock/padlocklaw13.BatchBack", spec := "batchBack", apart := false }
def BatchBackSaid : Prop := batchBackRow.holds Try.pinned (OpenSpec.ofChange batchBackSpec)

/-- ITS FALSE NEIGHBOUR: 'it returns false'. Refute it at one input. -/
def batchBackWrong : ChangeSpec := { name := "batchBack", fn := fun _ => fun
  | [d1, d2, d3] => { results := [.lit (.bool false)], args := [d1, d2, d3] }
  | _ => none }
def BatchBackWrongFalsely : Prop := batchBackRow.holds Try.pinned (OpenSpec.ofChange batchBackWrong)

/-- 'padlocklaw23.CacheTrue': WHATEVER THE INPUT: true; the input reads as it did. -/
def cacheTrueSpec : ChangeSpec := { name := "cacheTrue", fn := fun _ => fun
  | [d1, d2] => { results := [.lit (.bool true)], args := [d1, d2] }
  | _ => none }
def cacheTrueRow : OpenClaim := { program := "ytdicpbecdhaphaa", sum := "068878828af27465afd4478110d78209c8ccb2c8ac710054ee31e77803d74690", func := "padlock/padlocklaw23.CacheTrue", spec := "cacheTrue", recurses := true, apart := false }
def CacheTrueSaid : Prop := cacheTrueRow.holds Try.pinned (OpenSpec.ofChange cacheTrueSpec)

/-- ITS FALSE NEIGHBOUR: 'it returns false'. Refute it at one input. -/
def cacheTrueWrong : ChangeSpec := { name := "cacheTrue", fn := fun _ => fun
  | [d1, d2] => { results := [.lit (.bool false)], args := [d1, d2] }
  | _ => none }
def CacheTrueWrongFalsely : Prop := cacheTrueRow.holds Try.pinned (OpenSpec.ofChange cacheTrueWrong)

/- THE SECOND FORM. 'bulk': how many values and letters a reading holds, each counted each time it is reached (what is shared counts as often as it is met; a slice's spare places count too). A statement '..UptoSaid' is the law's where the arguments, and the package variables that the reading takes, are together of bulk at most 1048576: NARROWER than '..Said'. Prove '..Said' where nothing that the law and all that it calls make is longer than what came in: it says more and counts as full. Else prove '..UptoSaid'. A law counts once. -/
mutual
def uptoBulk {H : Type} : DataW H → Nat
  | .lit (.string bytes) => bytes.length + 1
  | .lit _ => 1
  | .nil => 1
  | .ptr d => uptoBulk d + 1
  | .slice elems spare => uptoBulkAll elems + uptoBulkAll spare + 1
  | .agg parts => uptoBulkAll parts + 1
  | .iface _ d => uptoBulk d + 1
  | .map entries => uptoBulkEntries entries + 1
  | .held _ => 1
def uptoBulkAll {H : Type} : List (DataW H) → Nat
  | [] => 0
  | d :: r => uptoBulk d + uptoBulkAll r
def uptoBulkEntries {H : Type} : List (Lit × DataW H) → Nat
  | [] => 0
  | x :: r => uptoBulkEntry x + uptoBulkEntries r
def uptoBulkEntry {H : Type} : Lit × DataW H → Nat
  | (.string bytes, d) => bytes.length + uptoBulk d + 1
  | (_, d) => uptoBulk d + 1
 end
def uptoSmall : (H : Type) → List (DataW H) → Bool := fun _ ds => decide (uptoBulkAll ds ≤ 1048576)
def OpenSpec.upto (s : _root_.Go.ChangeSpec) : _root_.Go.OpenSpec := { _root_.Go.OpenSpec.ofChange s with cond := some uptoSmall }

/-- 'padlocklaw14.TreeDoes', WHERE WHAT IT READS IS OF BULK AT MOST 1048576: true; the input reads as it did. -/
def treeDoesUptoRow : OpenClaim := { program := "ytdicpbecdhaphaa", sum := "068878828af27465afd4478110d78209c8ccb2c8ac710054ee31e77803d74690", func := "padlock/padlocklaw14.TreeDoes", spec := "treeDoes", unfollowed := true, recurses := true, apart := false, narrowed := true }
def TreeDoesUptoSaid : Prop := treeDoesUptoRow.holds Try.pinned (OpenSpec.upto treeDoesSpec)

/-- 'padlocklaw14.TreeAsks', WHERE WHAT IT READS IS OF BULK AT MOST 1048576: true; the input reads as it did. -/
def treeAsksUptoRow : OpenClaim := { program := "ytdicpbecdhaphaa", sum := "068878828af27465afd4478110d78209c8ccb2c8ac710054ee31e77803d74690", func := "padlock/padlocklaw14.TreeAsks", spec := "treeAsks", unfollowed := true, recurses := true, apart := false, narrowed := true }
def TreeAsksUptoSaid : Prop := treeAsksUptoRow.holds Try.pinned (OpenSpec.upto treeAsksSpec)

/-- 'padlocklaw14.TreeFlat', WHERE WHAT IT READS IS OF BULK AT MOST 1048576: true; the input reads as it did. -/
def treeFlatUptoRow : OpenClaim := { program := "ytdicpbecdhaphaa", sum := "068878828af27465afd4478110d78209c8ccb2c8ac710054ee31e77803d74690", func := "padlock/padlocklaw14.TreeFlat", spec := "treeFlat", unfollowed := true, recurses := true, apart := false, narrowed := true }
def TreeFlatUptoSaid : Prop := treeFlatUptoRow.holds Try.pinned (OpenSpec.upto treeFlatSpec)

/-- 'padlocklaw14.TreeStays', WHERE WHAT IT READS IS OF BULK AT MOST 1048576: true; the input reads as it did. -/
def treeStaysUptoRow : OpenClaim := { program := "ytdicpbecdhaphaa", sum := "068878828af27465afd4478110d78209c8ccb2c8ac710054ee31e77803d74690", func := "padlock/padlocklaw14.TreeStays", spec := "treeStays", unfollowed := true, recurses := true, apart := false, narrowed := true }
def TreeStaysUptoSaid : Prop := treeStaysUptoRow.holds Try.pinned (OpenSpec.upto treeStaysSpec)

/-- 'padlocklaw14.TreeParts', WHERE WHAT IT READS IS OF BULK AT MOST 1048576: true; the input reads as it did. -/
def treePartsUptoRow : OpenClaim := { program := "ytdicpbecdhaphaa", sum := "068878828af27465afd4478110d78209c8ccb2c8ac710054ee31e77803d74690", func := "padlock/padlocklaw14.TreeParts", spec := "treeParts", unfollowed := true, recurses := true, apart := false, narrowed := true }
def TreePartsUptoSaid : Prop := treePartsUptoRow.holds Try.pinned (OpenSpec.upto treePartsSpec)

/-- 'padlocklaw13.BatchTouches', WHERE WHAT IT READS IS OF BULK AT MOST 1048576: true; the input reads as it did. -/
def batchTouchesUptoRow : OpenClaim := { program := "ytdicpbecdhaphaa", sum := "068878828af27465afd4478110d78209c8ccb2c8ac710054ee31e77803d74690", func := "padlock/padlocklaw13.BatchTouches", spec := "batchTouches", apart := false, narrowed := true }
def BatchTouchesUptoSaid : Prop := batchTouchesUptoRow.holds Try.pinned (OpenSpec.upto batchTouchesSpec)

/-- 'padlocklaw13.BatchBack', WHERE WHAT IT READS IS OF BULK AT MOST 1048576: true; the input reads as it did. -/
def batchBackUptoRow : OpenClaim := { program := "ytdicpbecdhaphaa", sum := "068878828af27465afd4478110d78209c8ccb2c8ac710054ee31e77803d74690", func := "padlock/padlocklaw13.BatchBack", spec := "batchBack", apart := false, narrowed := true }
def BatchBackUptoSaid : Prop := batchBackUptoRow.holds Try.pinned (OpenSpec.upto batchBackSpec)

/-- 'padlocklaw23.CacheTrue', WHERE WHAT IT READS IS OF BULK AT MOST 1048576: true; the input reads as it did. -/
def cacheTrueUptoRow : OpenClaim := { program := "ytdicpbecdhaphaa", sum := "068878828af27465afd4478110d78209c8ccb2c8ac710054ee31e77803d74690", func := "padlock/padlocklaw23.CacheTrue", spec := "cacheTrue", recurses := true, apart := false, narrowed := true }
def CacheTrueUptoSaid : Prop := cacheTrueUptoRow.holds Try.pinned (OpenSpec.upto cacheTrueSpec)

end Rows
end Go.Proofs.Ytdicpbecdhaphaa
