/- nonce: counts that may be, their texts. No conditions but that numbers have 64 bits. -/
import Derived.Test.YtbaedepmogkkeaaGreatAuto
import Derived.Test.YtbaedepmogkkeaaGreatSnd
namespace Go.Proofs.YtbaedepmogkkeaaGreat.Av
open Go Go.RowKit
set_option linter.unusedVariables false
set_option linter.unusedSimpArgs false
set_option maxRecDepth 100000

abbrev cnt (e n : Nat) : AV := .ex (.agg #[.int .u64 (e : Int), .int .u64 (n : Int)])
def Okc (e n : Nat) : Prop := 1 ≤ e ∧ e ≤ 1099511627776 ∧ n ≤ 281474976710656
instance (e n : Nat) : Decidable (Okc e n) := inferInstanceAs (Decidable (_ ∧ _ ∧ _))
def chk (e n : Nat) : Int := if Okc e n then 0 else 2

end Go.Proofs.YtbaedepmogkkeaaGreat.Av
