/- The functions of this seat that write to what their arguments reach. No program's law is stated here. No conditions. -/
namespace Go.Proofs.Ytdicpbecdhaphaa.Av
set_option linter.unusedVariables false
set_option linter.unusedSimpArgs false
def mutF (f : Nat) : Bool := Nat.beq f 71 || Nat.beq f 106 || Nat.beq f 109 || Nat.beq f 86 || Nat.beq f 110 || Nat.beq f 82 || Nat.beq f 83 || Nat.beq f 84 || Nat.beq f 88 || Nat.beq f 104 || Nat.beq f 108 || Nat.beq f 85 || Nat.beq f 105 || Nat.beq f 80 || Nat.beq f 81 || Nat.beq f 51 || Nat.beq f 87 || Nat.beq f 52 || Nat.beq f 53 || Nat.beq f 47 || Nat.beq f 48 || Nat.beq f 49 || Nat.beq f 54 || Nat.beq f 79 || Nat.beq f 78 || Nat.beq f 50 || Nat.beq f 46
end Go.Proofs.Ytdicpbecdhaphaa.Av
