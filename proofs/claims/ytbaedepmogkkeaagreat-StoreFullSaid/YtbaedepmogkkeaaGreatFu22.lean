/- What the claim stands on, Fu22: contracts of functions and plain facts. No conditions. -/
import Derived.Test.YtbaedepmogkkeaaGreatFu8
import Derived.Test.YtbaedepmogkkeaaGreatFu17
namespace Go.Proofs.YtbaedepmogkkeaaGreat.Av
open Go Go.RowKit Go.ChangeShapes Go.WideShapes
set_option linter.unusedVariables false
set_option maxRecDepth 100000
set_option linter.unusedSimpArgs false
theorem calls_at {f : FuncId} {avs : List AV} {v : Value} (h : SP f avs (.ex v)) (w : World) (F : Nat → Nat → Prop) (hF : ∀ g j, F g j → g < w.heap.size) (xs : Array Value) (hs : xs.size = avs.length)
  (hr : ∀ j (h : j < avs.length), Rep w p0 c0 F noD avs[j] (xs.getD j undef)) : Calls Tryz.prog f xs w fun e w' => e = .returned v ∧ Below w.heap.size w w' := by
 refine (h.2 w F xs hs hr hF).mono ?_
 rintro e w' ⟨x, F', rfl, hb, _, _, hr⟩
 have := hr.ex_inv
 subst this
 exact ⟨rfl, hb⟩
end Go.Proofs.YtbaedepmogkkeaaGreat.Av
