/- cache: CacheCounts at the model. No conditions. -/
import Derived.Test.YtdjdcpbakeahcaaOpen2
import Derived.Test.YtdjdcpbakeahcaaCach6
namespace Go.Proofs.Ytdjdcpbakeahcaa.Av
open Go Go.RowKit Go.ChangeShapes Go.WideShapes LruK
set_option linter.unusedVariables false
set_option linter.unusedSimpArgs false
set_option maxRecDepth 100000
theorem u8x2_of {cs : Array Value} (h : CellsOk [.int .u8, .int .u8] cs.toList) : ∃ x y : Nat, x < 256 ∧ y < 256 ∧ cs = #[.int .u8 (x : Int), .int .u8 (y : Int)] := by
  obtain ⟨v, q1, e1, ⟨a, rfl, ha⟩, hq1⟩ := h.cons_
  obtain ⟨v, q2, e2, ⟨b, rfl, hb⟩, hq2⟩ := hq1.cons_
  have := hq2.empty_
  subst this
  have h1 := bounds_u8 ha
  have h2 := bounds_u8 hb
  refine ⟨a.toNat, b.toNat, by omega, by omega, ?_⟩
  rw [Int.toNat_of_nonneg h1.1, Int.toNat_of_nonneg h2.1]
  apply Array.ext'
  rw [e1, e2]
theorem cacheCounts_walk (a : UInt8) (key : List UInt8) (cs : Array Value) (w : World) (hs : key.length ≤ 9223372036854775807) (hc : CellsOk [.int .u8, .int .u8] cs.toList) :
    Calls Try.prog 11 #[.int .u8 (a.toNat : Int), .string (bs key), .agg cs] w fun e w' => e = .returned (.bool true) ∧ Below w.heap.size w w' := by
  obtain ⟨x, y, hx, hy, rfl⟩ := u8x2_of hc
  refine calls_at (avs := [.ex (.int .u8 (a.toNat : Int)), T key, .ex (.agg #[.int .u8 x, .int .u8 y])]) (LruK.counts_ok a.toNat x y a.toNat_lt hx hy key hs) w (fun _ _ => False) (fun _ _ h => h.elim) _ rfl fun j hj => ?_
  match j, hj with
  | 0, _ => exact .ex _ _
  | 1, _ => exact .ex _ _
  | 2, _ => exact .ex _ _
end Go.Proofs.Ytdjdcpbakeahcaa.Av
