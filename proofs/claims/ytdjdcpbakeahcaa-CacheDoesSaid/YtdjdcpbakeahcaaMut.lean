/- The functions of this seat that write to what their arguments reach. No program's law is stated here. No conditions. -/
namespace Go.Proofs.Ytdjdcpbakeahcaa.Av
set_option linter.unusedVariables false
set_option linter.unusedSimpArgs false
def mutF (f : Nat) : Bool := Nat.beq f 28 || Nat.beq f 72 || Nat.beq f 73 || Nat.beq f 17 || Nat.beq f 19 || Nat.beq f 20 || Nat.beq f 74 || Nat.beq f 21 || Nat.beq f 25 || Nat.beq f 26 || Nat.beq f 22 || Nat.beq f 23 || Nat.beq f 24 || Nat.beq f 16 || Nat.beq f 78 || Nat.beq f 32 || Nat.beq f 39 || Nat.beq f 36 || Nat.beq f 42 || Nat.beq f 44 || Nat.beq f 45 || Nat.beq f 33 || Nat.beq f 37 || Nat.beq f 34 || Nat.beq f 46 || Nat.beq f 77 || Nat.beq f 31 || Nat.beq f 104 || Nat.beq f 99 || Nat.beq f 87 || Nat.beq f 100 || Nat.beq f 92 || Nat.beq f 88 || Nat.beq f 93 || Nat.beq f 95 || Nat.beq f 89 || Nat.beq f 103 || Nat.beq f 94 || Nat.beq f 98 || Nat.beq f 84 || Nat.beq f 86 || Nat.beq f 52 || Nat.beq f 85 || Nat.beq f 51 || Nat.beq f 53 || Nat.beq f 60 || Nat.beq f 55 || Nat.beq f 62 || Nat.beq f 65 || Nat.beq f 57 || Nat.beq f 54 || Nat.beq f 63 || Nat.beq f 50 || Nat.beq f 48
end Go.Proofs.Ytdjdcpbakeahcaa.Av
