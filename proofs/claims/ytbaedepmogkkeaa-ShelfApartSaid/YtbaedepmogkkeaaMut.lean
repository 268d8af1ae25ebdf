/- The functions of this seat that write to what their arguments reach. No program's law is stated here. No conditions. -/
namespace Go.Proofs.Ytbaedepmogkkeaa.Av
set_option linter.unusedVariables false
set_option linter.unusedSimpArgs false
def mutF (f : Nat) : Bool := Nat.beq f 26
end Go.Proofs.Ytbaedepmogkkeaa.Av
