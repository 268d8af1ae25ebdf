/- ops that come in as arguments. No conditions. -/
import Derived.Test.YtdicpbecdhaphaaOpen2
import Derived.Test.YtdicpbecdhaphaaTree7
namespace Go.Proofs.Ytdicpbecdhaphaa.Av
open Go Go.RowKit Go.ChangeShapes Go.WideShapes Tre
set_option linter.unusedVariables false
set_option linter.unusedSimpArgs false
set_option maxRecDepth 100000

/-- rows of ops -/
theorem rows_O13 {rows : List (List Value)} (h : ∀ r ∈ rows, CellsOk [.int .u8, .str, .str] r) : ∃ os : List OpP, os.length = rows.length ∧ rows.flatten.map .ex = opC os := by
  induction rows with
  | nil => exact ⟨[], rfl, rfl⟩
  | cons r rows ih =>
    obtain ⟨os, h1, h2⟩ := ih fun r hr => h r (by simp [hr])
    obtain ⟨v, q1, rfl, ⟨k, rfl, hk⟩, hq1⟩ := (h r (by simp)).cons_
    obtain ⟨v, q2, rfl, ⟨l, rfl, hl⟩, hq2⟩ := hq1.cons_
    obtain ⟨v, q3, rfl, ⟨m, rfl, hm⟩, hq3⟩ := hq2.cons_
    have := hq3.empty_
    subst this
    have hb := bounds_u8 hk
    refine ⟨(k.toNat, l, m) :: os, by simp [h1], ?_⟩
    rw [List.flatten_cons, List.map_append, h2]
    show [AV.ex (.int .u8 k), T l, T m] ++ opC os = [AV.ex (.int .u8 (k.toNat : Int)), T l, T m] ++ opC os
    rw [Int.toNat_of_nonneg hb.1]
end Go.Proofs.Ytdicpbecdhaphaa.Av
