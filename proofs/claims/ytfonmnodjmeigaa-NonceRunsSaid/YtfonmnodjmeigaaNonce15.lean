/- nonce: the law on texts, as its arguments come. No conditions. -/
import Derived.Test.YtfonmnodjmeigaaNonce14
import Derived.Test.YtfonmnodjmeigaaOpen
namespace Go.Proofs.Ytfonmnodjmeigaa.Av
open Go Go.RowKit
set_option linter.unusedVariables false
set_option linter.unusedSimpArgs false

theorem cells_two {cs : Array Value} (h : CellsOk [.int .u64, .int .u64] cs.toList) : ∃ a b : Nat, cs = #[.int .u64 (a : Int), .int .u64 (b : Int)] := by
  obtain ⟨v0, r0, e0, ⟨k0, rfl, hk0⟩, hr0⟩ := h.cons_
  obtain ⟨v1, r1, e1, ⟨k1, rfl, hk1⟩, hr1⟩ := hr0.cons_
  have e2 := hr1.empty_
  subst e2 e1
  have f0 : 0 ≤ k0 := (bounds_u64 hk0).1
  have f1 : 0 ≤ k1 := (bounds_u64 hk1).1
  refine ⟨k0.toNat, k1.toNat, ?_⟩
  rw [Int.toNat_of_nonneg f0, Int.toNat_of_nonneg f1]
  apply Array.ext'
  rw [e0]
theorem nonceTells_row (a b : Array Value) (t : List UInt8) (w : World) (ha : CellsOk [.int .u64, .int .u64] a.toList) (hb : CellsOk [.int .u64, .int .u64] b.toList) (ht : t.length ≤ 9223372036854775807) :
    Calls Try.prog 8 #[.agg a, .agg b, .string (bs t)] w fun e w' => e = .returned (.bool true) ∧ Below w.heap.size w w' := by
  obtain ⟨e, n, rfl⟩ := cells_two ha
  obtain ⟨c, d, rfl⟩ := cells_two hb
  exact nonceTells_walk e n c d t w
end Go.Proofs.Ytfonmnodjmeigaa.Av
