/- cache: CacheNobody at the model. No conditions. -/
import Derived.Test.YtdjdcpbakeahcaaOpen2
import Derived.Test.YtdjdcpbakeahcaaCach5
namespace Go.Proofs.Ytdjdcpbakeahcaa.Av
open Go Go.RowKit Go.ChangeShapes Go.WideShapes LruK
set_option linter.unusedVariables false
set_option linter.unusedSimpArgs false
set_option maxRecDepth 100000
theorem cacheNobody_walk (s t : List UInt8) (w : World) (hs : s.length ≤ 9223372036854775807) (ht : t.length ≤ 9223372036854775807) :
    Calls Try.prog 13 #[.string (bs s), .string (bs t)] w fun e w' => e = .returned (.bool true) ∧ Below w.heap.size w w' := by
  refine calls_at (avs := [T s, T t]) (LruK.nobody_ok s t hs ht) w (fun _ _ => False) (fun _ _ h => h.elim) _ rfl fun j hj => ?_
  match j, hj with
  | 0, _ => exact .ex _ _
  | 1, _ => exact .ex _ _
end Go.Proofs.Ytdjdcpbakeahcaa.Av
