/- lru: LruNobody at the model. No conditions. -/
import Derived.Test.YtdjdcpbakeahcaaOpen2
import Derived.Test.YtdjdcpbakeahcaaLruL2
namespace Go.Proofs.Ytdjdcpbakeahcaa.Av
open Go Go.RowKit Go.ChangeShapes Go.WideShapes LruI
set_option linter.unusedVariables false
set_option linter.unusedSimpArgs false
set_option maxRecDepth 100000
theorem lruNobody_walk (s : List UInt8) (n : Int) (w : World) (hs : s.length ≤ 9223372036854775807) (hn0 : -9223372036854775808 ≤ n) (hn1 : n ≤ 9223372036854775807) :
    Calls Try.prog 9 #[.string (bs s), .int .i64 n] w fun e w' => e = .returned (.bool true) ∧ Below w.heap.size w w' := by
  refine calls_at (avs := [T s, Z n]) (LruI.nobody_ok s n hs) w (fun _ _ => False) (fun _ _ h => h.elim) _ rfl fun j hj => ?_
  match j, hj with
  | 0, _ => exact .ex _ _
  | 1, _ => exact .ex _ _
end Go.Proofs.Ytdjdcpbakeahcaa.Av
