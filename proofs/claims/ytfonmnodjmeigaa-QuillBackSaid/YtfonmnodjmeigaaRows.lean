/-
  No cell of these rows narrows 'for every input' (looked for: loops, veiled, ifaces, maps, wideKeys, modest, calm, conditions, laid).
  DERIVED. THE GIVEN ROWS OF THIS SEAT. 9 by the template 'for every input the law returns true; each argument reads behind the call as it read before'; 0 by the template 'total and deterministic' (their statements: YtfonmnodjmeigaaTotals.lean).
  GIVEN WITH THE SEED: the statements are not yours to turn. If you find one false, say at which input.
  Laid BY PROGRAM, IN A SANDBOX (cutbox-rows.mjs): the forced cells as the released guide's own fill.sh prints them over the translation 9aba593066c2235f… (all of the seat's roots in one cut). By AI agents, Wed Nov 11 2026. No macro, syntax, notation, axiom, sorry.
-/
import Derived.Test.YtfonmnodjmeigaaChecked
import GoSem.Claim
import GoSem.ClaimJoined
import GoSem.ClaimMapViews
import Derived.JoinedTies
import Derived.KernelRfl
namespace Go.Proofs.Ytfonmnodjmeigaa
/- THE CELL 'sum', in the pinned program and in every row, IS THE sha256 OF THE DUMP (.gsa) THAT YtfonmnodjmeigaaProg.lean LOADS. Nothing in Lean hashes anything: it is a label: what it is worth is what the hold of that sum in a sandbox is worth. -/
noncomputable def Try.pinned : Pinned := { name := "ytfonmnodjmeigaa", sum := "9aba593066c2235fb183ca407a08738565d917a09425d090f0c13132954be573", checked := Try.checked }
namespace Rows
def none {H : Type} : Left H := { results := [], args := [] }

/-- 'padlocklaw01.QuillScans': WHATEVER THE INPUT: true; the input reads as it did. -/
def quillScansSpec : ChangeSpec := { name := "quillScans", fn := fun _ => fun
  | [d1, d2] => { results := [.lit (.bool true)], args := [d1, d2] }
  | _ => none }
def quillScansRow : OpenClaim := { program := "ytfonmnodjmeigaa", sum := "9aba593066c2235fb183ca407a08738565d917a09425d090f0c13132954be573", func := "padlock/padlocklaw01.QuillScans", spec := "quillScans", apart := false }
def QuillScansSaid : Prop := quillScansRow.holds Try.pinned (OpenSpec.ofChange quillScansSpec)

/-- ITS FALSE NEIGHBOUR: 'it returns false'. Refute it at one input. -/
def quillScansWrong : ChangeSpec := { name := "quillScans", fn := fun _ => fun
  | [d1, d2] => { results := [.lit (.bool false)], args := [d1, d2] }
  | _ => none }
def QuillScansWrongFalsely : Prop := quillScansRow.holds Try.pinned (OpenSpec.ofChange quillScansWrong)

/-- 'padlocklaw01.QuillSplits': WHATEVER THE INPUT: true; the input reads as it did. -/
def quillSplitsSpec : ChangeSpec := { name := "quillSplits", fn := fun _ => fun
  | [d] => { results := [.lit (.bool true)], args := [d] }
  | _ => none }
def quillSplitsRow : OpenClaim := { program := "ytfonmnodjmeigaa", sum := "9aba593066c2235fb183ca407a08738565d917a09425d090f0c13132954be573", func := "padlock/padlocklaw01.QuillSplits", spec := "quillSplits", apart := false }
def QuillSplitsSaid : Prop := quillSplitsRow.holds Try.pinned (OpenSpec.ofChange quillSplitsSpec)

/-- ITS FALSE NEIGHBOUR: 'it returns false'. Refute it at one input. -/
def quillSplitsWrong : ChangeSpec := { name := "quillSplits", fn := fun _ => fun
  | [d] => { results := [.lit (.bool false)], args := [d] }
  | _ => none }
def QuillSplitsWrongFalsely : Prop := quillSplitsRow.holds Try.pinned (OpenSpec.ofChange quillSplitsWrong)

/-- 'padlocklaw01.QuillBack': WHATEVER THE INPUT: true; the input reads as it did. -/
def quillBackSpec : ChangeSpec := { name := "quillBack", fn := fun _ => fun
  | [d1, d2, d3] => { results := [.lit (.bool true)], args := [d1, d2, d3] }
  | _ => none }
def quillBackRow : OpenClaim := { program := "ytfonmnodjmeigaa", sum := "9aba593066c2235fb183ca407a08738565d917a09425d090f0c13132954be573", func := "padlock/padlocklaw01.QuillBack", spec := "quillBack", apart := false }
def QuillBackSaid : Prop := quillBackRow.holds Try.pinned (OpenSpec.ofChange quillBackSpec)

/-- ITS FALSE NEIGHBOUR: 'it returns false'. Refute it at one input. -/
def quillBackWrong : ChangeSpec := { name := "quillBack", fn := fun _ => fun
  | [d1, d2, d3] => { results := [.lit (.bool false)], args := [d1, d2, d3] }
  | _ => none }
def QuillBackWrongFalsely : Prop := quillBackRow.holds Try.pinned (OpenSpec.ofChange quillBackWrong)

/-- 'padlocklaw01.QuillLays': WHATEVER THE INPUT: true; the input reads as it did. -/
def quillLaysSpec : ChangeSpec := { name := "quillLays", fn := fun _ => fun
  | [d1, d2, d3] => { results := [.lit (.bool true)], args := [d1, d2, d3] }
  | _ => none }
def quillLaysRow : OpenClaim := { program := "ytfonmnodjmeigaa", sum := "9aba593066c2235fb183ca407a08738565d917a09425d090f0c13132954be573", func := "padlock/padlocklaw01.QuillLays", spec := "quillLays", apart := false }
def QuillLaysSaid : Prop := quillLaysRow.holds Try.pinned (OpenSpec.ofChange quillLaysSpec)

/-- ITS FALSE NEIGHBOUR: 'it returns false'. Refute it at one input. -/
def quillLaysWrong : ChangeSpec := { name := "quillLays", fn := fun _ => fun
  | [d1, d2, d3] => { results := [.lit (.bool false)], args := [d1, d2, d3] }
  | _ => none }
def QuillLaysWrongFalsely : Prop := quillLaysRow.holds Try.pinned (OpenSpec.ofChange quillLaysWrong)

/-- 'padlocklaw01.QuillRows': WHATEVER THE INPUT: true; the input reads as it did. -/
def quillRowsSpec : ChangeSpec := { name := "quillRows", fn := fun _ => fun
  | [d1, d2] => { results := [.lit (.bool true)], args := [d1, d2] }
  | _ => none }
def quillRowsRow : OpenClaim := { program := "ytfonmnodjmeigaa", sum := "9aba593066c2235fb183ca407a08738565d917a09425d090f0c13132954be573", func := "padlock/padlocklaw01.QuillRows", spec := "quillRows", apart := false }
def QuillRowsSaid : Prop := quillRowsRow.holds Try.pinned (OpenSpec.ofChange quillRowsSpec)

/-- ITS FALSE NEIGHBOUR: 'it returns false'. Refute it at one input. -/
def quillRowsWrong : ChangeSpec := { name := "quillRows", fn := fun _ => fun
  | [d1, d2] => { results := [.lit (.bool false)], args := [d1, d2] }
  | _ => none }
def QuillRowsWrongFalsely : Prop := quillRowsRow.holds Try.pinned (OpenSpec.ofChange quillRowsWrong)

/-- 'padlocklaw19.NonceTells': WHATEVER THE INPUT: true; the input reads as it did. -/
def nonceTellsSpec : ChangeSpec := { name := "nonceTells", fn := fun _ => fun
  | [d1, d2, d3] => { results := [.lit (.bool true)], args := [d1, d2, d3] }
  | _ => none }
def nonceTellsRow : OpenClaim := { program := "ytfonmnodjmeigaa", sum := "9aba593066c2235fb183ca407a08738565d917a09425d090f0c13132954be573", func := "padlock/padlocklaw19.NonceTells", spec := "nonceTells", apart := false }
def NonceTellsSaid : Prop := nonceTellsRow.holds Try.pinned (OpenSpec.ofChange nonceTellsSpec)

/-- ITS FALSE NEIGHBOUR: 'it returns false'. Refute it at one input. -/
def nonceTellsWrong : ChangeSpec := { name := "nonceTells", fn := fun _ => fun
  | [d1, d2, d3] => { results := [.lit (.bool false)], args := [d1, d2, d3] }
  | _ => none }
def NonceTellsWrongFalsely : Prop := nonceTellsRow.holds Try.pinned (OpenSpec.ofChange nonceTellsWrong)

/-- 'padlocklaw19.NonceTakes': WHATEVER THE INPUT: true; the input reads as it did. -/
def nonceTakesSpec : ChangeSpec := { name := "nonceTakes", fn := fun _ => fun
  | [d1, d2] => { results := [.lit (.bool true)], args := [d1, d2] }
  | _ => none }
def nonceTakesRow : OpenClaim := { program := "ytfonmnodjmeigaa", sum := "9aba593066c2235fb183ca407a08738565d917a09425d090f0c13132954be573", func := "padlock/padlocklaw19.NonceTakes", spec := "nonceTakes", apart := false }
def NonceTakesSaid : Prop := nonceTakesRow.holds Try.pinned (OpenSpec.ofChange nonceTakesSpec)

/-- ITS FALSE NEIGHBOUR: 'it returns false'. Refute it at one input. -/
def nonceTakesWrong : ChangeSpec := { name := "nonceTakes", fn := fun _ => fun
  | [d1, d2] => { results := [.lit (.bool false)], args := [d1, d2] }
  | _ => none }
def NonceTakesWrongFalsely : Prop := nonceTakesRow.holds Try.pinned (OpenSpec.ofChange nonceTakesWrong)

/-- 'padlocklaw19.NonceNever': WHATEVER THE INPUT: true; the input reads as it did. -/
def nonceNeverSpec : ChangeSpec := { name := "nonceNever", fn := fun _ => fun
  | [d1, d2] => { results := [.lit (.bool true)], args := [d1, d2] }
  | _ => none }
def nonceNeverRow : OpenClaim := { program := "ytfonmnodjmeigaa", sum := "9aba593066c2235fb183ca407a08738565d917a09425d090f0c13132954be573", func := "padlock/padlocklaw19.NonceNever", spec := "nonceNever", apart := false }
def NonceNeverSaid : Prop := nonceNeverRow.holds Try.pinned (OpenSpec.ofChange nonceNeverSpec)

/-- ITS FALSE NEIGHBOUR: 'it returns false'. Refute it at one input. -/
def nonceNeverWrong : ChangeSpec := { name := "nonceNever", fn := fun _ => fun
  | [d1, d2] => { results := [.lit (.bool false)], args := [d1, d2] }
  | _ => none }
def NonceNeverWrongFalsely : Prop := nonceNeverRow.holds Try.pinned (OpenSpec.ofChange nonceNeverWrong)

/-- 'padlocklaw19.NonceRuns': WHATEVER THE INPUT: true; the input reads as it did. -/
def nonceRunsSpec : ChangeSpec := { name := "nonceRuns", fn := fun _ => fun
  | [d1, d2, d3] => { results := [.lit (.bool true)], args := [d1, d2, d3] }
  | _ => none }
def nonceRunsRow : OpenClaim := { program := "ytfonmnodjmeigaa", sum := "9aba593066c2235fb183ca407a08738565d917a09425d090f0c13132954be573", func := "padlock/padlocklaw19.NonceRuns", spec := "nonceRuns", apart := false }
def NonceRunsSaid : Prop := nonceRunsRow.holds Try.pinned (OpenSpec.ofChange nonceRunsSpec)

/-- ITS FALSE NEIGHBOUR: 'it returns false'. Refute it at one input. -/
def nonceRunsWrong : ChangeSpec := { name := "nonceRuns", fn := fun _ => fun
  | [d1, d2, d3] => { results := [.lit (.bool false)], args := [d1, d2, d3] }
  | _ => none }
def NonceRunsWrongFalsely : Prop := nonceRunsRow.holds Try.pinned (OpenSpec.ofChange nonceRunsWrong)

/- THE SECOND FORM. 'bulk': how many values and letters a reading holds, each counted each time it is reached (what is shared counts as often as it is met; a slice's spare places count too). A statement '..UptoSaid' is the law's where the arguments, and the package variables that the reading takes, are together of bulk at most 1048576: NARROWER than '..Said'. Prove '..Said' where nothing that the law and all that it calls make is longer than what came in: it says more and counts as full. Else prove '..UptoSaid'. A law counts once. -/
mutual
def uptoBulk {H : Type} : DataW H → Nat
  | .lit (.string bytes) => bytes.length + 1
  | .lit _ => 1
  | .nil => 1
  | .ptr d => uptoBulk d + 1
  | .slice elems spare => uptoBulkAll elems + uptoBulkAll spare + 1
  | .agg parts => uptoBulkAll parts + 1
  | .iface _ d => uptoBulk d + 1
  | .map entries => uptoBulkEntries entries + 1
  | .held _ => 1
def uptoBulkAll {H : Type} : List (DataW H) → Nat
  | [] => 0
  | d :: r => uptoBulk d + uptoBulkAll r
def uptoBulkEntries {H : Type} : List (Lit × DataW H) → Nat
  | [] => 0
  | x :: r => uptoBulkEntry x + uptoBulkEntries r
def uptoBulkEntry {H : Type} : Lit × DataW H → Nat
  | (.string bytes, d) => bytes.length + uptoBulk d + 1
  | (_, d) => uptoBulk d + 1
 end
def uptoSmall : (H : Type) → List (DataW H) → Bool := fun _ ds => decide (uptoBulkAll ds ≤ 1048576)
def OpenSpec.upto (s : _root_.Go.ChangeSpec) : _root_.Go.OpenSpec := { _root_.Go.OpenSpec.ofChange s with cond := some uptoSmall }

/-- 'padlocklaw01.QuillScans', WHERE WHAT IT READS IS OF BULK AT MOST 1048576: true; the input reads as it did. -/
def quillScansUptoRow : OpenClaim := { program := "ytfonmnodjmeigaa", sum := "9aba593066c2235fb183ca407a08738565d917a09425d090f0c13132954be573", func := "padlock/padlocklaw01.QuillScans", spec := "quillScans", apart := false, narrowed := true }
def QuillScansUptoSaid : Prop := quillScansUptoRow.holds Try.pinned (OpenSpec.upto quillScansSpec)

/-- 'padlocklaw01.QuillSplits', WHERE WHAT IT READS IS OF BULK AT MOST 1048576: true; the input reads as it did. -/
def quillSplitsUptoRow : OpenClaim := { program := "ytfonmnodjmeigaa", sum := "9aba593066c2235fb183ca407a08738565d917a09425d090f0c13132954be573", func := "padlock/padlocklaw01.QuillSplits", spec := "quillSplits", apart := false, narrowed := true }
def QuillSplitsUptoSaid : Prop := quillSplitsUptoRow.holds Try.pinned (OpenSpec.upto quillSplitsSpec)

/-- 'padlocklaw01.QuillBack', WHERE WHAT IT READS IS OF BULK AT MOST 1048576: true; the input reads as it did. -/
def quillBackUptoRow : OpenClaim := { program := "ytfonmnodjmeigaa", sum := "9aba593066c2235fb183ca407a08738565d917a09425d090f0c13132954be573", func := "padlock/padlocklaw01.QuillBack", spec := "quillBack", apart := false, narrowed := true }
def QuillBackUptoSaid : Prop := quillBackUptoRow.holds Try.pinned (OpenSpec.upto quillBackSpec)

/-- 'padlocklaw01.QuillLays', WHERE WHAT IT READS IS OF BULK AT MOST 1048576: true; the input reads as it did. -/
def quillLaysUptoRow : OpenClaim := { program := "ytfonmnodjmeigaa", sum := "9aba593066c2235fb183ca407a08738565d917a09425d090f0c13132954be573", func := "padlock/padlocklaw01.QuillLays", spec := "quillLays", apart := false, narrowed := true }
def QuillLaysUptoSaid : Prop := quillLaysUptoRow.holds Try.pinned (OpenSpec.upto quillLaysSpec)

/-- 'padlocklaw01.QuillRows', WHERE WHAT IT READS IS OF BULK AT MOST 1048576: true; the input reads as it did. -/
def quillRowsUptoRow : OpenClaim := { program := "ytfonmnodjmeigaa", sum := "9aba593066c2235fb183ca407a08738565d917a09425d090f0c13132954be573", func := "padlock/padlocklaw01.QuillRows", spec := "quillRows", apart := false, narrowed := true }
def QuillRowsUptoSaid : Prop := quillRowsUptoRow.holds Try.pinned (OpenSpec.upto quillRowsSpec)

/-- 'padlocklaw19.NonceTells', WHERE WHAT IT READS IS OF BULK AT MOST 1048576: true; the input reads as it did. -/
def nonceTellsUptoRow : OpenClaim := { program := "ytfonmnodjmeigaa", sum := "9aba593066c2235fb183ca407a08738565d917a09425d090f0c13132954be573", func := "padlock/padlocklaw19.NonceTells", spec := "nonceTells", apart := false, narrowed := true }
def NonceTellsUptoSaid : Prop := nonceTellsUptoRow.holds Try.pinned (OpenSpec.upto nonceTellsSpec)

/-- 'padlocklaw19.NonceTakes', WHERE WHAT IT READS IS OF BULK AT MOST 1048576: true; the input reads as it did. -/
def nonceTakesUptoRow : OpenClaim := { program := "ytfonmnodjmeigaa", sum := "9aba593066c2235fb183ca407a08738565d917a09425d090f0c13132954be573", func := "padlock/padlocklaw19.NonceTakes", spec := "nonceTakes", apart := false, narrowed := true }
def NonceTakesUptoSaid : Prop := nonceTakesUptoRow.holds Try.pinned (OpenSpec.upto nonceTakesSpec)

/-- 'padlocklaw19.NonceNever', WHERE WHAT IT READS IS OF BULK AT MOST 1048576: true; the input reads as it did. -/
def nonceNeverUptoRow : OpenClaim := { program := "ytfonmnodjmeigaa", sum := "9aba593066c2235fb183ca407a08738565d917a09425d090f0c13132954be573", func := "padlock/padlocklaw19.NonceNever", spec := "nonceNever", apart := false, narrowed := true }
def NonceNeverUptoSaid : Prop := nonceNeverUptoRow.holds Try.pinned (OpenSpec.upto nonceNeverSpec)

/-- 'padlocklaw19.NonceRuns', WHERE WHAT IT READS IS OF BULK AT MOST 1048576: true; the input reads as it did. -/
def nonceRunsUptoRow : OpenClaim := { program := "ytfonmnodjmeigaa", sum := "9aba593066c2235fb183ca407a08738565d917a09425d090f0c13132954be573", func := "padlock/padlocklaw19.NonceRuns", spec := "nonceRuns", apart := false, narrowed := true }
def NonceRunsUptoSaid : Prop := nonceRunsUptoRow.holds Try.pinned (OpenSpec.upto nonceRunsSpec)

end Rows
end Go.Proofs.Ytfonmnodjmeigaa
