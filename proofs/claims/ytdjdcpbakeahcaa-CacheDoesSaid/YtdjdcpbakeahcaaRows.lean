/-
  No cell of these rows narrows 'for every input' (looked for: loops, veiled, ifaces, maps, wideKeys, modest, calm, conditions, laid).
  DERIVED. THE GIVEN ROWS OF THIS SEAT. 11 by the template 'for every input the law returns true; each argument reads behind the call as it read before'; 0 by the template 'total and deterministic' (their statements: YtdjdcpbakeahcaaTotals.lean).
  GIVEN WITH THE SEED: the statements are not yours to turn. If you find one false, say at which input.
  Laid BY PROGRAM, IN A SANDBOX (cutbox-rows.mjs): the forced cells as the released guide's own fill.sh prints them over the translation cf1a830ad2e1d906… (all of the seat's roots in one cut). By AI agents, Wed Nov 11 2026. No macro, syntax, notation, axiom, sorry.
-/
import Derived.Test.YtdjdcpbakeahcaaChecked
import GoSem.Claim
import GoSem.ClaimJoined
import GoSem.ClaimMapViews
import Derived.JoinedTies
import Derived.KernelRfl
namespace Go.Proofs.Ytdjdcpbakeahcaa
/- THE CELL 'sum', in the pinned program and in every row, IS THE sha256 OF THE DUMP (.gsa) THAT YtdjdcpbakeahcaaProg.lean LOADS. Nothing in Lean hashes anything: it is a label: what it is worth is what the hold of that sum in a sandbox is worth. -/
noncomputable def Try.pinned : Pinned := { name := "ytdjdcpbakeahcaa", sum := "cf1a830ad2e1d9066d9b418fb42bdfce8d9728876a201c11c3a4201c8300736e", checked := Try.checked }
namespace Rows
def none {H : Type} : Left H := { results := [], args := [] }

/-- 'padlocklaw11.DiskDoes': WHATEVER THE INPUT: true; the input reads as it did. -/
def diskDoesSpec : ChangeSpec := { name := "diskDoes", fn := fun _ => fun
  | [d1, d2, d3] => { results := [.lit (.bool true)], args := [d1, d2, d3] }
  | _ => none }
def diskDoesRow : OpenClaim := { program := "ytdjdcpbakeahcaa", sum := "cf1a830ad2e1d9066d9b418fb42bdfce8d9728876a201c11c3a4201c8300736e", func := "padlock/padlocklaw11.DiskDoes", spec := "diskDoes", apart := false }
def DiskDoesSaid : Prop := diskDoesRow.holds Try.pinned (OpenSpec.ofChange diskDoesSpec)

/-- ITS FALSE NEIGHBOUR: 'it returns false'. Refute it at one input. -/
def diskDoesWrong : ChangeSpec := { name := "diskDoes", fn := fun _ => fun
  | [d1, d2, d3] => { results := [.lit (.bool false)], args := [d1, d2, d3] }
  | _ => none }
def DiskDoesWrongFalsely : Prop := diskDoesRow.holds Try.pinned (OpenSpec.ofChange diskDoesWrong)

/-- 'padlocklaw11.DiskNobody': WHATEVER THE INPUT: true; the input reads as it did. -/
def diskNobodySpec : ChangeSpec := { name := "diskNobody", fn := fun _ => fun
  | [d1, d2, d3] => { results := [.lit (.bool true)], args := [d1, d2, d3] }
  | _ => none }
def diskNobodyRow : OpenClaim := { program := "ytdjdcpbakeahcaa", sum := "cf1a830ad2e1d9066d9b418fb42bdfce8d9728876a201c11c3a4201c8300736e", func := "padlock/padlocklaw11.DiskNobody", spec := "diskNobody", apart := false }
def DiskNobodySaid : Prop := diskNobodyRow.holds Try.pinned (OpenSpec.ofChange diskNobodySpec)

/-- ITS FALSE NEIGHBOUR: 'it returns false'. Refute it at one input. -/
def diskNobodyWrong : ChangeSpec := { name := "diskNobody", fn := fun _ => fun
  | [d1, d2, d3] => { results := [.lit (.bool false)], args := [d1, d2, d3] }
  | _ => none }
def DiskNobodyWrongFalsely : Prop := diskNobodyRow.holds Try.pinned (OpenSpec.ofChange diskNobodyWrong)

/-- 'padlocklaw11.DiskLasts': WHATEVER THE INPUT: true; the input reads as it did. -/
def diskLastsSpec : ChangeSpec := { name := "diskLasts", fn := fun _ => fun
  | [d1, d2, d3] => { results := [.lit (.bool true)], args := [d1, d2, d3] }
  | _ => none }
def diskLastsRow : OpenClaim := { program := "ytdjdcpbakeahcaa", sum := "cf1a830ad2e1d9066d9b418fb42bdfce8d9728876a201c11c3a4201c8300736e", func := "padlock/padlocklaw11.DiskLasts", spec := "diskLasts", apart := false }
def DiskLastsSaid : Prop := diskLastsRow.holds Try.pinned (OpenSpec.ofChange diskLastsSpec)

/-- ITS FALSE NEIGHBOUR: 'it returns false'. Refute it at one input. -/
def diskLastsWrong : ChangeSpec := { name := "diskLasts", fn := fun _ => fun
  | [d1, d2, d3] => { results := [.lit (.bool false)], args := [d1, d2, d3] }
  | _ => none }
def DiskLastsWrongFalsely : Prop := diskLastsRow.holds Try.pinned (OpenSpec.ofChange diskLastsWrong)

/-- 'padlocklaw11.DiskTears': WHATEVER THE INPUT: true; the input reads as it did. -/
def diskTearsSpec : ChangeSpec := { name := "diskTears", fn := fun _ => fun
  | [d1, d2, d3] => { results := [.lit (.bool true)], args := [d1, d2, d3] }
  | _ => none }
def diskTearsRow : OpenClaim := { program := "ytdjdcpbakeahcaa", sum := "cf1a830ad2e1d9066d9b418fb42bdfce8d9728876a201c11c3a4201c8300736e", func := "padlock/padlocklaw11.DiskTears", spec := "diskTears", apart := false }
def DiskTearsSaid : Prop := diskTearsRow.holds Try.pinned (OpenSpec.ofChange diskTearsSpec)

/-- ITS FALSE NEIGHBOUR: 'it returns false'. Refute it at one input. -/
def diskTearsWrong : ChangeSpec := { name := "diskTears", fn := fun _ => fun
  | [d1, d2, d3] => { results := [.lit (.bool false)], args := [d1, d2, d3] }
  | _ => none }
def DiskTearsWrongFalsely : Prop := diskTearsRow.holds Try.pinned (OpenSpec.ofChange diskTearsWrong)

/-- 'padlocklaw22.LruBound': WHATEVER THE INPUT: true; the input reads as it did. -/
def lruBoundSpec : ChangeSpec := { name := "lruBound", fn := fun _ => fun
  | [d1, d2] => { results := [.lit (.bool true)], args := [d1, d2] }
  | _ => none }
def lruBoundRow : OpenClaim := { program := "ytdjdcpbakeahcaa", sum := "cf1a830ad2e1d9066d9b418fb42bdfce8d9728876a201c11c3a4201c8300736e", func := "padlock/padlocklaw22.LruBound", spec := "lruBound", apart := false }
def LruBoundSaid : Prop := lruBoundRow.holds Try.pinned (OpenSpec.ofChange lruBoundSpec)

/-- ITS FALSE NEIGHBOUR: 'it returns false'. Refute it at one input. -/
def lruBoundWrong : ChangeSpec := { name := "lruBound", fn := fun _ => fun
  | [d1, d2] => { results := [.lit (.bool false)], args := [d1, d2] }
  | _ => none }
def LruBoundWrongFalsely : Prop := lruBoundRow.holds Try.pinned (OpenSpec.ofChange lruBoundWrong)

/-- 'padlocklaw22.LruDoes': WHATEVER THE INPUT: true; the input reads as it did. -/
def lruDoesSpec : ChangeSpec := { name := "lruDoes", fn := fun _ => fun
  | [d1, d2] => { results := [.lit (.bool true)], args := [d1, d2] }
  | _ => none }
def lruDoesRow : OpenClaim := { program := "ytdjdcpbakeahcaa", sum := "cf1a830ad2e1d9066d9b418fb42bdfce8d9728876a201c11c3a4201c8300736e", func := "padlock/padlocklaw22.LruDoes", spec := "lruDoes", apart := false }
def LruDoesSaid : Prop := lruDoesRow.holds Try.pinned (OpenSpec.ofChange lruDoesSpec)

/-- ITS FALSE NEIGHBOUR: 'it returns false'. Refute it at one input. -/
def lruDoesWrong : ChangeSpec := { name := "lruDoes", fn := fun _ => fun
  | [d1, d2] => { results := [.lit (.bool false)], args := [d1, d2] }
  | _ => none }
def LruDoesWrongFalsely : Prop := lruDoesRow.holds Try.pinned (OpenSpec.ofChange lruDoesWrong)

/-- 'padlocklaw22.LruNobody': WHATEVER THE INPUT: true; the input reads as it did. -/
def lruNobodySpec : ChangeSpec := { name := "lruNobody", fn := fun _ => fun
  | [d1, d2] => { results := [.lit (.bool true)], args := [d1, d2] }
  | _ => none }
def lruNobodyRow : OpenClaim := { program := "ytdjdcpbakeahcaa", sum := "cf1a830ad2e1d9066d9b418fb42bdfce8d9728876a201c11c3a4201c8300736e", func := "padlock/padlocklaw22.LruNobody", spec := "lruNobody", apart := false }
def LruNobodySaid : Prop := lruNobodyRow.holds Try.pinned (OpenSpec.ofChange lruNobodySpec)

/-- ITS FALSE NEIGHBOUR: 'it returns false'. Refute it at one input. -/
def lruNobodyWrong : ChangeSpec := { name := "lruNobody", fn := fun _ => fun
  | [d1, d2] => { results := [.lit (.bool false)], args := [d1, d2] }
  | _ => none }
def LruNobodyWrongFalsely : Prop := lruNobodyRow.holds Try.pinned (OpenSpec.ofChange lruNobodyWrong)

/-- 'padlocklaw22.LruKeeps': WHATEVER THE INPUT: true; the input reads as it did. -/
def lruKeepsSpec : ChangeSpec := { name := "lruKeeps", fn := fun _ => fun
  | [d1, d2, d3] => { results := [.lit (.bool true)], args := [d1, d2, d3] }
  | _ => none }
def lruKeepsRow : OpenClaim := { program := "ytdjdcpbakeahcaa", sum := "cf1a830ad2e1d9066d9b418fb42bdfce8d9728876a201c11c3a4201c8300736e", func := "padlock/padlocklaw22.LruKeeps", spec := "lruKeeps", apart := false }
def LruKeepsSaid : Prop := lruKeepsRow.holds Try.pinned (OpenSpec.ofChange lruKeepsSpec)

/-- ITS FALSE NEIGHBOUR: 'it returns false'. Refute it at one input. -/
def lruKeepsWrong : ChangeSpec := { name := "lruKeeps", fn := fun _ => fun
  | [d1, d2, d3] => { results := [.lit (.bool false)], args := [d1, d2, d3] }
  | _ => none }
def LruKeepsWrongFalsely : Prop := lruKeepsRow.holds Try.pinned (OpenSpec.ofChange lruKeepsWrong)

/-- 'padlocklaw23.CacheCounts': WHATEVER THE INPUT: true; the input reads as it did. -/
def cacheCountsSpec : ChangeSpec := { name := "cacheCounts", fn := fun _ => fun
  | [d1, d2, d3] => { results := [.lit (.bool true)], args := [d1, d2, d3] }
  | _ => none }
def cacheCountsRow : OpenClaim := { program := "ytdjdcpbakeahcaa", sum := "cf1a830ad2e1d9066d9b418fb42bdfce8d9728876a201c11c3a4201c8300736e", func := "padlock/padlocklaw23.CacheCounts", spec := "cacheCounts", apart := false }
def CacheCountsSaid : Prop := cacheCountsRow.holds Try.pinned (OpenSpec.ofChange cacheCountsSpec)

/-- ITS FALSE NEIGHBOUR: 'it returns false'. Refute it at one input. -/
def cacheCountsWrong : ChangeSpec := { name := "cacheCounts", fn := fun _ => fun
  | [d1, d2, d3] => { results := [.lit (.bool false)], args := [d1, d2, d3] }
  | _ => none }
def CacheCountsWrongFalsely : Prop := cacheCountsRow.holds Try.pinned (OpenSpec.ofChange cacheCountsWrong)

/-- 'padlocklaw23.CacheDoes': WHATEVER THE INPUT: true; the input reads as it did. -/
def cacheDoesSpec : ChangeSpec := { name := "cacheDoes", fn := fun _ => fun
  | [d1, d2] => { results := [.lit (.bool true)], args := [d1, d2] }
  | _ => none }
def cacheDoesRow : OpenClaim := { program := "ytdjdcpbakeahcaa", sum := "cf1a830ad2e1d9066d9b418fb42bdfce8d9728876a201c11c3a4201c8300736e", func := "padlock/padlocklaw23.CacheDoes", spec := "cacheDoes", apart := false }
def CacheDoesSaid : Prop := cacheDoesRow.holds Try.pinned (OpenSpec.ofChange cacheDoesSpec)

/-- ITS FALSE NEIGHBOUR: 'it returns false'. Refute it at one input. -/
def cacheDoesWrong : ChangeSpec := { name := "cacheDoes", fn := fun _ => fun
  | [d1, d2] => { results := [.lit (.bool false)], args := [d1, d2] }
  | _ => none }
def CacheDoesWrongFalsely : Prop := cacheDoesRow.holds Try.pinned (OpenSpec.ofChange cacheDoesWrong)

/-- 'padlocklaw23.CacheNobody': WHATEVER THE INPUT: true; the input reads as it did. -/
def cacheNobodySpec : ChangeSpec := { name := "cacheNobody", fn := fun _ => fun
  | [d1, d2] => { results := [.lit (.bool true)], args := [d1, d2] }
  | _ => none }
def cacheNobodyRow : OpenClaim := { program := "ytdjdcpbakeahcaa", sum := "cf1a830ad2e1d9066d9b418fb42bdfce8d9728876a201c11c3a4201c8300736e", func := "padlock/padlocklaw23.CacheNobody", spec := "cacheNobody", apart := false }
def CacheNobodySaid : Prop := cacheNobodyRow.holds Try.pinned (OpenSpec.ofChange cacheNobodySpec)

/-- ITS FALSE NEIGHBOUR: 'it returns false'. Refute it at one input. -/
def cacheNobodyWrong : ChangeSpec := { name := "cacheNobody", fn := fun _ => fun
  | [d1, d2] => { results := [.lit (.bool false)], args := [d1, d2] }
  | _ => none }
def CacheNobodyWrongFalsely : Prop := cacheNobodyRow.holds Try.pinned (OpenSpec.ofChange cacheNobodyWrong)

/- THE SECOND FORM. 'bulk': how many values and letters a reading holds, each counted each time it is reached (what is shared counts as often as it is met; a slice's spare places count too). A statement '..UptoSaid' is the law's where the arguments, and the package variables that the reading takes, are together of bulk at most 1048576: NARROWER than '..Said'. Prove '..Said' where nothing that the law and all that it calls make is longer than what came in: it says more and counts as full. Else prove '..UptoSaid'. A law counts once. -/
mutual
def uptoBulk {H : Type} : DataW H → Nat
  | .lit (.string bytes) => bytes.length + 1
  | .lit _ => 1
  | .nil => 1
  | .ptr d => uptoBulk d + 1
  | .slice elems spare => uptoBulkAll elems + uptoBulkAll spare + 1
  | .agg parts => uptoBulkAll parts + 1
  | .iface _ d => uptoBulk d + 1
  | .map entries => uptoBulkEntries entries + 1
  | .held _ => 1
def uptoBulkAll {H : Type} : List (DataW H) → Nat
  | [] => 0
  | d :: r => uptoBulk d + uptoBulkAll r
def uptoBulkEntries {H : Type} : List (Lit × DataW H) → Nat
  | [] => 0
  | x :: r => uptoBulkEntry x + uptoBulkEntries r
def uptoBulkEntry {H : Type} : Lit × DataW H → Nat
  | (.string bytes, d) => bytes.length + uptoBulk d + 1
  | (_, d) => uptoBulk d + 1
 end
def uptoSmall : (H : Type) → List (DataW H) → Bool := fun _ ds => decide (uptoBulkAll ds ≤ 1048576)
def OpenSpec.upto (s : _root_.Go.ChangeSpec) : _root_.Go.OpenSpec := { _root_.Go.OpenSpec.ofChange s with cond := some uptoSmall }

/-- 'padlocklaw11.DiskDoes', WHERE WHAT IT READS IS OF BULK AT MOST 1048576: true; the input reads as it did. -/
def diskDoesUptoRow : OpenClaim := { program := "ytdjdcpbakeahcaa", sum := "cf1a830ad2e1d9066d9b418fb42bdfce8d9728876a201c11c3a4201c8300736e", func := "padlock/padlocklaw11.DiskDoes", spec := "diskDoes", apart := false, narrowed := true }
def DiskDoesUptoSaid : Prop := diskDoesUptoRow.holds Try.pinned (OpenSpec.upto diskDoesSpec)

/-- 'padlocklaw11.DiskNobody', WHERE WHAT IT READS IS OF BULK AT MOST 1048576: true; the input reads as it did. -/
def diskNobodyUptoRow : OpenClaim := { program := "ytdjdcpbakeahcaa", sum := "cf1a830ad2e1d9066d9b418fb42bdfce8d9728876a201c11c3a4201c8300736e", func := "padlock/padlocklaw11.DiskNobody", spec := "diskNobody", apart := false, narrowed := true }
def DiskNobodyUptoSaid : Prop := diskNobodyUptoRow.holds Try.pinned (OpenSpec.upto diskNobodySpec)

/-- 'padlocklaw11.DiskLasts', WHERE WHAT IT READS IS OF BULK AT MOST 1048576: true; the input reads as it did. -/
def diskLastsUptoRow : OpenClaim := { program := "ytdjdcpbakeahcaa", sum := "cf1a830ad2e1d9066d9b418fb42bdfce8d9728876a201c11c3a4201c8300736e", func := "padlock/padlocklaw11.DiskLasts", spec := "diskLasts", apart := false, narrowed := true }
def DiskLastsUptoSaid : Prop := diskLastsUptoRow.holds Try.pinned (OpenSpec.upto diskLastsSpec)

/-- 'padlocklaw11.DiskTears', WHERE WHAT IT READS IS OF BULK AT MOST 1048576: true; the input reads as it did. -/
def diskTearsUptoRow : OpenClaim := { program := "ytdjdcpbakeahcaa", sum := "cf1a830ad2e1d9066d9b418fb42bdfce8d9728876a201c11c3a4201c8300736e", func := "padlock/padlocklaw11.DiskTears", spec := "diskTears", apart := false, narrowed := true }
def DiskTearsUptoSaid : Prop := diskTearsUptoRow.holds Try.pinned (OpenSpec.upto diskTearsSpec)

/-- 'padlocklaw22.LruBound', WHERE WHAT IT READS IS OF BULK AT MOST 1048576: true; the input reads as it did. -/
def lruBoundUptoRow : OpenClaim := { program := "ytdjdcpbakeahcaa", sum := "cf1a830ad2e1d9066d9b418fb42bdfce8d9728876a201c11c3a4201c8300736e", func := "padlock/padlocklaw22.LruBound", spec := "lruBound", apart := false, narrowed := true }
def LruBoundUptoSaid : Prop := lruBoundUptoRow.holds Try.pinned (OpenSpec.upto lruBoundSpec)

/-- 'padlocklaw22.LruDoes', WHERE WHAT IT READS IS OF BULK AT MOST 1048576: true; the input reads as it did. -/
def lruDoesUptoRow : OpenClaim := { program := "ytdjdcpbakeahcaa", sum := "cf1a830ad2e1d9066d9b418fb42bdfce8d9728876a201c11c3a4201c8300736e", func := "padlock/padlocklaw22.LruDoes", spec := "lruDoes", apart := false, narrowed := true }
def LruDoesUptoSaid : Prop := lruDoesUptoRow.holds Try.pinned (OpenSpec.upto lruDoesSpec)

/-- 'padlocklaw22.LruNobody', WHERE WHAT IT READS IS OF BULK AT MOST 1048576: true; the input reads as it did. -/
def lruNobodyUptoRow : OpenClaim := { program := "ytdjdcpbakeahcaa", sum := "cf1a830ad2e1d9066d9b418fb42bdfce8d9728876a201c11c3a4201c8300736e", func := "padlock/padlocklaw22.LruNobody", spec := "lruNobody", apart := false, narrowed := true }
def LruNobodyUptoSaid : Prop := lruNobodyUptoRow.holds Try.pinned (OpenSpec.upto lruNobodySpec)

/-- 'padlocklaw22.LruKeeps', WHERE WHAT IT READS IS OF BULK AT MOST 1048576: true; the input reads as it did. -/
def lruKeepsUptoRow : OpenClaim := { program := "ytdjdcpbakeahcaa", sum := "cf1a830ad2e1d9066d9b418fb42bdfce8d9728876a201c11c3a4201c8300736e", func := "padlock/padlocklaw22.LruKeeps", spec := "lruKeeps", apart := false, narrowed := true }
def LruKeepsUptoSaid : Prop := lruKeepsUptoRow.holds Try.pinned (OpenSpec.upto lruKeepsSpec)

/-- 'padlocklaw23.CacheCounts', WHERE WHAT IT READS IS OF BULK AT MOST 1048576: true; the input reads as it did. -/
def cacheCountsUptoRow : OpenClaim := { program := "ytdjdcpbakeahcaa", sum := "cf1a830ad2e1d9066d9b418fb42bdfce8d9728876a201c11c3a4201c8300736e", func := "padlock/padlocklaw23.CacheCounts", spec := "cacheCounts", apart := false, narrowed := true }
def CacheCountsUptoSaid : Prop := cacheCountsUptoRow.holds Try.pinned (OpenSpec.upto cacheCountsSpec)

/-- 'padlocklaw23.CacheDoes', WHERE WHAT IT READS IS OF BULK AT MOST 1048576: true; the input reads as it did. -/
def cacheDoesUptoRow : OpenClaim := { program := "ytdjdcpbakeahcaa", sum := "cf1a830ad2e1d9066d9b418fb42bdfce8d9728876a201c11c3a4201c8300736e", func := "padlock/padlocklaw23.CacheDoes", spec := "cacheDoes", apart := false, narrowed := true }
def CacheDoesUptoSaid : Prop := cacheDoesUptoRow.holds Try.pinned (OpenSpec.upto cacheDoesSpec)

/-- 'padlocklaw23.CacheNobody', WHERE WHAT IT READS IS OF BULK AT MOST 1048576: true; the input reads as it did. -/
def cacheNobodyUptoRow : OpenClaim := { program := "ytdjdcpbakeahcaa", sum := "cf1a830ad2e1d9066d9b418fb42bdfce8d9728876a201c11c3a4201c8300736e", func := "padlock/padlocklaw23.CacheNobody", spec := "cacheNobody", apart := false, narrowed := true }
def CacheNobodyUptoSaid : Prop := cacheNobodyUptoRow.holds Try.pinned (OpenSpec.upto cacheNobodySpec)

end Rows
end Go.Proofs.Ytdjdcpbakeahcaa
