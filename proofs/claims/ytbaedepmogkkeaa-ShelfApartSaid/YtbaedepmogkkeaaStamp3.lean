/- stamp: payloads are put together, walked by the reference. No conditions but that texts are shorter than memory. -/
import Derived.Test.YtbaedepmogkkeaaStamp2
namespace Go.Proofs.Ytbaedepmogkkeaa.Av
open Go Go.RowKit
set_option linter.unusedVariables false
set_option linter.unusedSimpArgs false
set_option maxRecDepth 100000

end Go.Proofs.Ytbaedepmogkkeaa.Av
