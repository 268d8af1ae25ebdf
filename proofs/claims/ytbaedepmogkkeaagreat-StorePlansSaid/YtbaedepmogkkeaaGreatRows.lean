/-
  No cell of these rows narrows 'for every input' (looked for: loops, veiled, ifaces, maps, wideKeys, modest, calm, conditions, laid).
  DERIVED. THE GIVEN ROWS OF THIS SEAT. 7 by the template 'for every input the law returns true; each argument reads behind the call as it read before'; 0 by the template 'total and deterministic' (their statements: YtbaedepmogkkeaaGreatTotals.lean).
  GIVEN WITH THE SEED: the statements are not yours to turn. If you find one false, say at which input.
  Laid BY PROGRAM, IN A SANDBOX (cutbox-rows.mjs): the forced cells as the released guide's own fill.sh prints them over the translation 117ca169c9dd09ee… (all of the seat's roots in one cut). By AI agents, Wed Nov 11 2026. No macro, syntax, notation, axiom, sorry.
-/
import Derived.Test.YtbaedepmogkkeaaGreatChecked
import GoSem.Claim
import GoSem.ClaimJoined
import GoSem.ClaimMapViews
import Derived.JoinedTies
import Derived.KernelRfl
namespace Go.Proofs.YtbaedepmogkkeaaGreat
/- THE CELL 'sum', in the pinned program and in every row, IS THE sha256 OF THE DUMP (.gsa) THAT YtbaedepmogkkeaaGreatProg.lean LOADS. Nothing in Lean hashes anything: it is a label: what it is worth is what the hold of that sum in a sandbox is worth. -/
noncomputable def Tryz.pinned : Pinned := { name := "ytbaedepmogkkeaagreat", sum := "117ca169c9dd09eeb7233829a9710bff7dc312a94f0a45a4b3ef3b51b570496c", checked := Tryz.checked }
namespace Rows
def none {H : Type} : Left H := { results := [], args := [] }

/-- 'padlocklaw15.ShelfLays': WHATEVER THE INPUT: true; the input reads as it did. -/
def shelfLaysSpec : ChangeSpec := { name := "shelfLays", fn := fun _ => fun
  | [d1, d2, d3] => { results := [.lit (.bool true)], args := [d1, d2, d3] }
  | _ => none }
def shelfLaysRow : OpenClaim := { program := "ytbaedepmogkkeaagreat", sum := "117ca169c9dd09eeb7233829a9710bff7dc312a94f0a45a4b3ef3b51b570496c", func := "padlock/padlocklaw15.ShelfLays", spec := "shelfLays", inPlace := ["internal/abi.NoEscape", "internal/bytealg.MakeNoZero"], unfollowed := true, recurses := true, apart := false }
def ShelfLaysSaid : Prop := shelfLaysRow.holds Tryz.pinned (OpenSpec.ofChange shelfLaysSpec)

/-- ITS FALSE NEIGHBOUR: 'it returns false'. Refute it at one input. -/
def shelfLaysWrong : ChangeSpec := { name := "shelfLays", fn := fun _ => fun
  | [d1, d2, d3] => { results := [.lit (.bool false)], args := [d1, d2, d3] }
  | _ => none }
def ShelfLaysWrongFalsely : Prop := shelfLaysRow.holds Tryz.pinned (OpenSpec.ofChange shelfLaysWrong)

/-- 'padlocklaw18.StoreRecovers': WHATEVER THE INPUT: true; the input reads as it did. -/
def storeRecoversSpec : ChangeSpec := { name := "storeRecovers", fn := fun _ => fun
  | [d1, d2] => { results := [.lit (.bool true)], args := [d1, d2] }
  | _ => none }
def storeRecoversRow : OpenClaim := { program := "ytbaedepmogkkeaagreat", sum := "117ca169c9dd09eeb7233829a9710bff7dc312a94f0a45a4b3ef3b51b570496c", func := "padlock/padlocklaw18.StoreRecovers", spec := "storeRecovers", inPlace := ["internal/abi.NoEscape", "internal/bytealg.MakeNoZero"], unfollowed := true, recurses := true, apart := false }
def StoreRecoversSaid : Prop := storeRecoversRow.holds Tryz.pinned (OpenSpec.ofChange storeRecoversSpec)

/-- ITS FALSE NEIGHBOUR: 'it returns false'. Refute it at one input. -/
def storeRecoversWrong : ChangeSpec := { name := "storeRecovers", fn := fun _ => fun
  | [d1, d2] => { results := [.lit (.bool false)], args := [d1, d2] }
  | _ => none }
def StoreRecoversWrongFalsely : Prop := storeRecoversRow.holds Tryz.pinned (OpenSpec.ofChange storeRecoversWrong)

/-- 'padlocklaw18.StoreFull': WHATEVER THE INPUT: true; the input reads as it did. -/
def storeFullSpec : ChangeSpec := { name := "storeFull", fn := fun _ => fun
  | [d1, d2, d3] => { results := [.lit (.bool true)], args := [d1, d2, d3] }
  | _ => none }
def storeFullRow : OpenClaim := { program := "ytbaedepmogkkeaagreat", sum := "117ca169c9dd09eeb7233829a9710bff7dc312a94f0a45a4b3ef3b51b570496c", func := "padlock/padlocklaw18.StoreFull", spec := "storeFull", inPlace := ["internal/abi.NoEscape", "internal/bytealg.MakeNoZero"], unfollowed := true, recurses := true, apart := false }
def StoreFullSaid : Prop := storeFullRow.holds Tryz.pinned (OpenSpec.ofChange storeFullSpec)

/-- ITS FALSE NEIGHBOUR: 'it returns false'. Refute it at one input. -/
def storeFullWrong : ChangeSpec := { name := "storeFull", fn := fun _ => fun
  | [d1, d2, d3] => { results := [.lit (.bool false)], args := [d1, d2, d3] }
  | _ => none }
def StoreFullWrongFalsely : Prop := storeFullRow.holds Tryz.pinned (OpenSpec.ofChange storeFullWrong)

/-- 'padlocklaw18.StorePlans': WHATEVER THE INPUT: true; the input reads as it did. -/
def storePlansSpec : ChangeSpec := { name := "storePlans", fn := fun _ => fun
  | [d1, d2, d3] => { results := [.lit (.bool true)], args := [d1, d2, d3] }
  | _ => none }
def storePlansRow : OpenClaim := { program := "ytbaedepmogkkeaagreat", sum := "117ca169c9dd09eeb7233829a9710bff7dc312a94f0a45a4b3ef3b51b570496c", func := "padlock/padlocklaw18.StorePlans", spec := "storePlans", inPlace := ["internal/abi.NoEscape", "internal/bytealg.MakeNoZero"], unfollowed := true, recurses := true, apart := false }
def StorePlansSaid : Prop := storePlansRow.holds Tryz.pinned (OpenSpec.ofChange storePlansSpec)

/-- ITS FALSE NEIGHBOUR: 'it returns false'. Refute it at one input. -/
def storePlansWrong : ChangeSpec := { name := "storePlans", fn := fun _ => fun
  | [d1, d2, d3] => { results := [.lit (.bool false)], args := [d1, d2, d3] }
  | _ => none }
def StorePlansWrongFalsely : Prop := storePlansRow.holds Tryz.pinned (OpenSpec.ofChange storePlansWrong)

/-- 'padlocklaw18.StoreNobody': WHATEVER THE INPUT: true; the input reads as it did. -/
def storeNobodySpec : ChangeSpec := { name := "storeNobody", fn := fun _ => fun
  | [d1, d2] => { results := [.lit (.bool true)], args := [d1, d2] }
  | _ => none }
def storeNobodyRow : OpenClaim := { program := "ytbaedepmogkkeaagreat", sum := "117ca169c9dd09eeb7233829a9710bff7dc312a94f0a45a4b3ef3b51b570496c", func := "padlock/padlocklaw18.StoreNobody", spec := "storeNobody", inPlace := ["internal/abi.NoEscape", "internal/bytealg.MakeNoZero"], unfollowed := true, recurses := true, apart := false }
def StoreNobodySaid : Prop := storeNobodyRow.holds Tryz.pinned (OpenSpec.ofChange storeNobodySpec)

/-- ITS FALSE NEIGHBOUR: 'it returns false'. Refute it at one input. -/
def storeNobodyWrong : ChangeSpec := { name := "storeNobody", fn := fun _ => fun
  | [d1, d2] => { results := [.lit (.bool false)], args := [d1, d2] }
  | _ => none }
def StoreNobodyWrongFalsely : Prop := storeNobodyRow.holds Tryz.pinned (OpenSpec.ofChange storeNobodyWrong)

/-- 'padlocklaw18.StoreSurvives': WHATEVER THE INPUT: true; the input reads as it did. -/
def storeSurvivesSpec : ChangeSpec := { name := "storeSurvives", fn := fun _ => fun
  | [d1, d2, d3] => { results := [.lit (.bool true)], args := [d1, d2, d3] }
  | _ => none }
def storeSurvivesRow : OpenClaim := { program := "ytbaedepmogkkeaagreat", sum := "117ca169c9dd09eeb7233829a9710bff7dc312a94f0a45a4b3ef3b51b570496c", func := "padlock/padlocklaw18.StoreSurvives", spec := "storeSurvives", inPlace := ["internal/abi.NoEscape", "internal/bytealg.MakeNoZero"], unfollowed := true, recurses := true, apart := false }
def StoreSurvivesSaid : Prop := storeSurvivesRow.holds Tryz.pinned (OpenSpec.ofChange storeSurvivesSpec)

/-- ITS FALSE NEIGHBOUR: 'it returns false'. Refute it at one input. -/
def storeSurvivesWrong : ChangeSpec := { name := "storeSurvives", fn := fun _ => fun
  | [d1, d2, d3] => { results := [.lit (.bool false)], args := [d1, d2, d3] }
  | _ => none }
def StoreSurvivesWrongFalsely : Prop := storeSurvivesRow.holds Tryz.pinned (OpenSpec.ofChange storeSurvivesWrong)

/-- 'padlocklaw18.StoreForks': WHATEVER THE INPUT: true; the input reads as it did. -/
def storeForksSpec : ChangeSpec := { name := "storeForks", fn := fun _ => fun
  | [d1, d2, d3] => { results := [.lit (.bool true)], args := [d1, d2, d3] }
  | _ => none }
def storeForksRow : OpenClaim := { program := "ytbaedepmogkkeaagreat", sum := "117ca169c9dd09eeb7233829a9710bff7dc312a94f0a45a4b3ef3b51b570496c", func := "padlock/padlocklaw18.StoreForks", spec := "storeForks", inPlace := ["internal/abi.NoEscape", "internal/bytealg.MakeNoZero"], unfollowed := true, recurses := true, apart := false }
def StoreForksSaid : Prop := storeForksRow.holds Tryz.pinned (OpenSpec.ofChange storeForksSpec)

/-- ITS FALSE NEIGHBOUR: 'it returns false'. Refute it at one input. -/
def storeForksWrong : ChangeSpec := { name := "storeForks", fn := fun _ => fun
  | [d1, d2, d3] => { results := [.lit (.bool false)], args := [d1, d2, d3] }
  | _ => none }
def StoreForksWrongFalsely : Prop := storeForksRow.holds Tryz.pinned (OpenSpec.ofChange storeForksWrong)

/- THE SECOND FORM. 'bulk': how many values and letters a reading holds, each counted each time it is reached (what is shared counts as often as it is met; a slice's spare places count too). A statement '..UptoSaid' is the law's where the arguments, and the package variables that the reading takes, are together of bulk at most 1048576: NARROWER than '..Said'. Prove '..Said' where nothing that the law and all that it calls make is longer than what came in: it says more and counts as full. Else prove '..UptoSaid'. A law counts once. -/
mutual
def uptoBulk {H : Type} : DataW H → Nat
  | .lit (.string bytes) => bytes.length + 1
  | .lit _ => 1
  | .nil => 1
  | .ptr d => uptoBulk d + 1
  | .slice elems spare => uptoBulkAll elems + uptoBulkAll spare + 1
  | .agg parts => uptoBulkAll parts + 1
  | .iface _ d => uptoBulk d + 1
  | .map entries => uptoBulkEntries entries + 1
  | .held _ => 1
def uptoBulkAll {H : Type} : List (DataW H) → Nat
  | [] => 0
  | d :: r => uptoBulk d + uptoBulkAll r
def uptoBulkEntries {H : Type} : List (Lit × DataW H) → Nat
  | [] => 0
  | x :: r => uptoBulkEntry x + uptoBulkEntries r
def uptoBulkEntry {H : Type} : Lit × DataW H → Nat
  | (.string bytes, d) => bytes.length + uptoBulk d + 1
  | (_, d) => uptoBulk d + 1
 end
def uptoSmall : (H : Type) → List (DataW H) → Bool := fun _ ds => decide (uptoBulkAll ds ≤ 1048576)
def OpenSpec.upto (s : _root_.Go.ChangeSpec) : _root_.Go.OpenSpec := { _root_.Go.OpenSpec.ofChange s with cond := some uptoSmall }

/-- 'padlocklaw15.ShelfLays', WHERE WHAT IT READS IS OF BULK AT MOST 1048576: true; the input reads as it did. -/
def shelfLaysUptoRow : OpenClaim := { program := "ytbaedepmogkkeaagreat", sum := "117ca169c9dd09eeb7233829a9710bff7dc312a94f0a45a4b3ef3b51b570496c", func := "padlock/padlocklaw15.ShelfLays", spec := "shelfLays", inPlace := ["internal/abi.NoEscape", "internal/bytealg.MakeNoZero"], unfollowed := true, recurses := true, apart := false, narrowed := true }
def ShelfLaysUptoSaid : Prop := shelfLaysUptoRow.holds Tryz.pinned (OpenSpec.upto shelfLaysSpec)

/-- 'padlocklaw18.StoreRecovers', WHERE WHAT IT READS IS OF BULK AT MOST 1048576: true; the input reads as it did. -/
def storeRecoversUptoRow : OpenClaim := { program := "ytbaedepmogkkeaagreat", sum := "117ca169c9dd09eeb7233829a9710bff7dc312a94f0a45a4b3ef3b51b570496c", func := "padlock/padlocklaw18.StoreRecovers", spec := "storeRecovers", inPlace := ["internal/abi.NoEscape", "internal/bytealg.MakeNoZero"], unfollowed := true, recurses := true, apart := false, narrowed := true }
def StoreRecoversUptoSaid : Prop := storeRecoversUptoRow.holds Tryz.pinned (OpenSpec.upto storeRecoversSpec)

/-- 'padlocklaw18.StoreFull', WHERE WHAT IT READS IS OF BULK AT MOST 1048576: true; the input reads as it did. -/
def storeFullUptoRow : OpenClaim := { program := "ytbaedepmogkkeaagreat", sum := "117ca169c9dd09eeb7233829a9710bff7dc312a94f0a45a4b3ef3b51b570496c", func := "padlock/padlocklaw18.StoreFull", spec := "storeFull", inPlace := ["internal/abi.NoEscape", "internal/bytealg.MakeNoZero"], unfollowed := true, recurses := true, apart := false, narrowed := true }
def StoreFullUptoSaid : Prop := storeFullUptoRow.holds Tryz.pinned (OpenSpec.upto storeFullSpec)

/-- 'padlocklaw18.StorePlans', WHERE WHAT IT READS IS OF BULK AT MOST 1048576: true; the input reads as it did. -/
def storePlansUptoRow : OpenClaim := { program := "ytbaedepmogkkeaagreat", sum := "117ca169c9dd09eeb7233829a9710bff7dc312a94f0a45a4b3ef3b51b570496c", func := "padlock/padlocklaw18.StorePlans", spec := "storePlans", inPlace := ["internal/abi.NoEscape", "internal/bytealg.MakeNoZero"], unfollowed := true, recurses := true, apart := false, narrowed := true }
def StorePlansUptoSaid : Prop := storePlansUptoRow.holds Tryz.pinned (OpenSpec.upto storePlansSpec)

/-- 'padlocklaw18.StoreNobody', WHERE WHAT IT READS IS OF BULK AT MOST 1048576: true; the input reads as it did. -/
def storeNobodyUptoRow : OpenClaim := { program := "ytbaedepmogkkeaagreat", sum := "117ca169c9dd09eeb7233829a9710bff7dc312a94f0a45a4b3ef3b51b570496c", func := "padlock/padlocklaw18.StoreNobody", spec := "storeNobody", inPlace := ["internal/abi.NoEscape", "internal/bytealg.MakeNoZero"], unfollowed := true, recurses := true, apart := false, narrowed := true }
def StoreNobodyUptoSaid : Prop := storeNobodyUptoRow.holds Tryz.pinned (OpenSpec.upto storeNobodySpec)

/-- 'padlocklaw18.StoreSurvives', WHERE WHAT IT READS IS OF BULK AT MOST 1048576: true; the input reads as it did. -/
def storeSurvivesUptoRow : OpenClaim := { program := "ytbaedepmogkkeaagreat", sum := "117ca169c9dd09eeb7233829a9710bff7dc312a94f0a45a4b3ef3b51b570496c", func := "padlock/padlocklaw18.StoreSurvives", spec := "storeSurvives", inPlace := ["internal/abi.NoEscape", "internal/bytealg.MakeNoZero"], unfollowed := true, recurses := true, apart := false, narrowed := true }
def StoreSurvivesUptoSaid : Prop := storeSurvivesUptoRow.holds Tryz.pinned (OpenSpec.upto storeSurvivesSpec)

/-- 'padlocklaw18.StoreForks', WHERE WHAT IT READS IS OF BULK AT MOST 1048576: true; the input reads as it did. -/
def storeForksUptoRow : OpenClaim := { program := "ytbaedepmogkkeaagreat", sum := "117ca169c9dd09eeb7233829a9710bff7dc312a94f0a45a4b3ef3b51b570496c", func := "padlock/padlocklaw18.StoreForks", spec := "storeForks", inPlace := ["internal/abi.NoEscape", "internal/bytealg.MakeNoZero"], unfollowed := true, recurses := true, apart := false, narrowed := true }
def StoreForksUptoSaid : Prop := storeForksUptoRow.holds Tryz.pinned (OpenSpec.upto storeForksSpec)

end Rows
end Go.Proofs.YtbaedepmogkkeaaGreat
