/- What the claim stands on, Su8: contracts of functions and plain facts. No conditions. -/
import Derived.Test.YtbaedepmogkkeaaGreatSu4
import Derived.ProofKit
import Derived.OpenShut
import Derived.ChangeOld
import Derived.Below
namespace Go.Proofs.YtbaedepmogkkeaaGreat
set_option linter.unusedSimpArgs false
set_option linter.unusedVariables false
open Go.RowKit Go.ChangeShapes Go.WideShapes
inductive CK where
 | int (k : IntKind)
 | bool
 | str
def sized (P : Program) (t : TypeId) (ks : List CK) : Option (List CK) := if ks.length = P.cellsOf t then some ks else none
section
variable {H : Type} {enc : TypeId × Value → H} {P : Program} {w : World} {base : Nat} {spare : Nat → Bool} {held : Bool}
theorem mapM_some {α β : Type} (f : α → Option β) : ∀ (l : List α) (r : List β), l.mapM f = some r → r.length = l.length ∧ ∀ (i : Nat) (a : α), l[i]? = some a → ∃ b, f a = some b ∧ r[i]? = some b
 | [], r, h => by
  simp at h; subst h
  exact ⟨rfl, fun i a h => by simp at h⟩
 | x :: l, r, h => by
  rw [List.mapM_cons] at h
  cases hx : f x with
  | none => simp [hx] at h
  | some b =>
   cases hl : l.mapM f with
   | none => simp [hx, hl] at h
   | some r' =>
    simp [hx, hl] at h
    subst h
    obtain ⟨h1, h2⟩ := mapM_some f l r' hl
    refine ⟨by simp [h1], fun i a ha => ?_⟩
    cases i with
    | zero => simp at ha; subst ha; exact ⟨b, hx, rfl⟩
    | succ i => simpa using h2 i a (by simpa using ha)
theorem cells?_at {a : Addr} {n : Nat} {cs : List Value} (h : w.cells? base a n = some cs) : cs.length = n ∧ ∀ (j : Nat) (u : Value), cs[j]? = some u → w.cell? (a.add j) = some u := by
 unfold World.cells? at h
 split at h
 ·obtain ⟨h1, h2⟩ := mapM_some _ _ _ h
  rw [List.length_range] at h1
  refine ⟨h1, fun j u hu => ?_⟩
  have hj : j < n := by
   rcases Nat.lt_or_ge j cs.length with hlt | hge
   ·omega
   ·rw [List.getElem?_eq_none hge] at hu; cases hu
  obtain ⟨b, hb, hr⟩ := h2 j j (by rw [List.getElem?_range hj])
  rw [hu] at hr
  injection hr with hr; subst hr
  exact hb
 ·cases h
theorem add_add (a : Addr) (i j : Nat) : (a.add i).add j = a.add (i + j) := by
 unfold Addr.add
 by_cases hi : i = 0 <;> by_cases hj : j = 0 <;> simp [hi, hj, Nat.add_assoc]
/-! ### an argument, opened; its reading stays as it is -/
variable {r : Reach} {b0 : Nat}
end
end Go.Proofs.YtbaedepmogkkeaaGreat
