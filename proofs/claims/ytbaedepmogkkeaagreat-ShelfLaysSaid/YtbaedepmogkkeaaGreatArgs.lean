/- Slices of bytes and of integers that came in as arguments. No program's law is stated here. No conditions. -/
import Derived.Test.YtbaedepmogkkeaaGreatVals
namespace Go.Proofs.YtbaedepmogkkeaaGreat
set_option linter.unusedSimpArgs false
set_option linter.unusedVariables false
set_option maxRecDepth 100000
open Go.RowKit Go.ChangeShapes Go.WideShapes
/-- bytes that came in. -/
theorem RdB.of_slice {w : World} {A : Option Addr} {len : Nat} (h : SliceOk w [.int .u8] A len) : ∃ l, RdB w A len l := by
  rcases h with ⟨rfl, rfl⟩ | ⟨x, rfl, hx⟩
  · exact ⟨[], RdB.nil_ _ _⟩
  · have hone : ∀ i, i < len → ∃ b : UInt8, w.cell? (x.add i) = some (byteV b) := by
      intro i hi
      obtain ⟨cs, hcs, hc⟩ := hx i hi
      obtain ⟨v, r, rfl, ⟨n, rfl, hn⟩, _⟩ := hcs.cons_
      have := hc 0 _ rfl
      have hb := bounds_u8 hn
      refine ⟨UInt8.ofNat n.toNat, ?_⟩
      rw [byteV, UInt8.toNat_ofNat_of_lt' (by show n.toNat < 256; omega), Int.toNat_of_nonneg hb.1]
      simpa using this
    have hL : ∀ m, m ≤ len → ∃ l : List UInt8, l.length = m ∧ ∀ i, i < m → w.cell? (x.add i) = some (byteV (byteAt l i)) := by
      intro m
      induction m with
      | zero => intro _; exact ⟨[], rfl, fun i hi => absurd hi (by omega)⟩
      | succ m ih =>
        intro hm
        obtain ⟨L, h1, h2⟩ := ih (by omega)
        obtain ⟨b, hb⟩ := hone m (by omega)
        refine ⟨L ++ [b], by simp [h1], fun i hi => ?_⟩
        by_cases e : i = m
        · subst e
          have : byteAt (L ++ [b]) i = b := by unfold byteAt; rw [← h1]; simp
          rw [this]; exact hb
        · have : byteAt (L ++ [b]) i = byteAt L i := by unfold byteAt; rw [List.getElem?_append_left (by omega)]
          rw [this]; exact h2 i (by omega)
    obtain ⟨l, h1, h2⟩ := hL len (Nat.le_refl _)
    exact ⟨l, h1, fun _ => ⟨x, rfl, h2⟩⟩
end Go.Proofs.YtbaedepmogkkeaaGreat
