/- The functions of this seat that write to what their arguments reach. No program's law is stated here. No conditions. -/
namespace Go.Proofs.Ytdjdcpbakeahcaa.Av
set_option linter.unusedVariables false
set_option linter.unusedSimpArgs false
def mutF (f : Nat) : Bool := Nat.beq f 28 || Nat.beq f 72 || Nat.beq f 73 || Nat.beq f 17 || Nat.beq f 19 || Nat.beq f 20 || Nat.beq f 74 || Nat.beq f 21 || Nat.beq f 25 || Nat.beq f 26 || Nat.beq f 22 || Nat.beq f 23 || Nat.beq f 24 || Nat.beq f 16
end Go.Proofs.Ytdjdcpbakeahcaa.Av
