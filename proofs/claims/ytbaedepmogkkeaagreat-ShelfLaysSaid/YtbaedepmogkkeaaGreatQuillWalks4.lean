/- quill: all rows of a list of texts, walked; the reference's. No conditions but that texts are few and short, as the laws have them. -/
import Derived.Test.YtbaedepmogkkeaaGreatQuillWalks3
namespace Go.Proofs.YtbaedepmogkkeaaGreat
set_option linter.unusedSimpArgs false
set_option linter.unusedVariables false
open Go.RowKit

theorem rowsB_bound (L : List (List UInt8)) (hs : ∀ s ∈ L, s.length ≤ 200) : (Quill.rowsB L).length ≤ 202 * L.length := by
  induction L with
  | nil => simp [Quill.rowsB]
  | cons s L ih =>
    have h1 := hs s (by simp)
    have h2 := ih (fun t ht => hs t (by simp [ht]))
    rw [Quill.rowsB, List.length_append, Quill.rowB_length, List.length_cons]
    omega
theorem rowsB_take (L : List (List UInt8)) (hs : ∀ s ∈ L, s.length ≤ 200) (k : Nat) (hk : k < L.length) : (Quill.rowsB (L.take (k + 1))) = Quill.rowsB (L.take k) ++ Quill.rowB (tAt L k) := by
  rw [take_snocT L k hk, Quill.rowsB_snoc]
theorem rowsB_take_bound (L : List (List UInt8)) (hs : ∀ s ∈ L, s.length ≤ 200) (k : Nat) (hn : L.length ≤ 40) : (Quill.rowsB (L.take k)).length ≤ 8080 := by
  have := rowsB_bound (L.take k) (fun s h => hs s (List.mem_of_mem_take h))
  have h2 : (L.take k).length ≤ 40 := Nat.le_trans (List.length_take_le' _ _) hn
  omega

theorem RetBE.low {base b : Nat} {w w' : World} {l : List UInt8} {n : Int} {e : Ending} (h : RetBE base w l n e w') (hb : b ≤ base) : RetBE b w l n e w' := by
  obtain ⟨A, k, c, he, ho, hl⟩ := h
  exact ⟨A, k, c, he, ho.low hb, hl.mono hb⟩

end Go.Proofs.YtbaedepmogkkeaaGreat
