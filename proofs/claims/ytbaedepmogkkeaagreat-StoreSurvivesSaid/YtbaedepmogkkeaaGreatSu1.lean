/- What the claim stands on, Su1: contracts of functions and plain facts. No conditions. -/
namespace Go.Proofs.YtbaedepmogkkeaaGreat.Av
set_option linter.unusedVariables false
set_option linter.unusedSimpArgs false
def mutF (f : Nat) : Bool := Nat.beq f 156 || Nat.beq f 125 || Nat.beq f 22 || Nat.beq f 91 || Nat.beq f 92 || Nat.beq f 93 || Nat.beq f 23 || Nat.beq f 122 || Nat.beq f 168 || Nat.beq f 120 || Nat.beq f 57 || Nat.beq f 59 || Nat.beq f 82 || Nat.beq f 43 || Nat.beq f 190 || Nat.beq f 141 || Nat.beq f 20 || Nat.beq f 41 || Nat.beq f 85 || Nat.beq f 83 || Nat.beq f 58 || Nat.beq f 96 || Nat.beq f 88 || Nat.beq f 45 || Nat.beq f 47 || Nat.beq f 50 || Nat.beq f 35 || Nat.beq f 37 || Nat.beq f 51 || Nat.beq f 52 || Nat.beq f 53 || Nat.beq f 109 || Nat.beq f 110 || Nat.beq f 99 || Nat.beq f 24 || Nat.beq f 34 || Nat.beq f 55 || Nat.beq f 33
end Go.Proofs.YtbaedepmogkkeaaGreat.Av
