/- 'awake' of the laws of quill: it returns true. No conditions. -/
import Derived.Test.YtbaedepmogkkeaaGreatSplitWalks
import Derived.Test.YtbaedepmogkkeaaGreatQuillWalks4
namespace Go.Proofs.YtbaedepmogkkeaaGreat
set_option linter.unusedSimpArgs false
set_option linter.unusedVariables false
open Go.RowKit

theorem RdT.pair {w : World} {A : Option Addr} {n : Nat} {L : List (List UInt8)} (h : RdT w A n L) (hn : n = 2) :
    ∃ b o, A = some ⟨b, o, none⟩ ∧ w.cell? ⟨b, o, none⟩ = some (.string (bs (tAt L 0))) ∧ w.cell? ⟨b, o + 1, none⟩ = some (.string (bs (tAt L 1))) := by
  obtain ⟨b, o, rfl, h0⟩ := h.at_ (k := 0) (by omega)
  obtain ⟨b', o', e, h1⟩ := h.at_ (k := 1) (by omega)
  cases e
  exact ⟨b, o, rfl, h0, h1⟩

end Go.Proofs.YtbaedepmogkkeaaGreat
