/- What the claim stands on, Pl6: contracts of functions and plain facts. No conditions. -/
import Derived.Test.YtbaedepmogkkeaaGreatPl4
import Derived.Lib.ConvBytes
namespace Go.Proofs.YtbaedepmogkkeaaGreat
set_option linter.unusedSimpArgs false
set_option linter.unusedVariables false
set_option maxRecDepth 100000
open Go.RowKit
def ByteBuf (w : World) (g : Nat) (t : TypeId) (l : List UInt8) : Prop :=
 ∃ cs fr, w.heap[g]? = some (.cells cs t fr) ∧ (fr.2 ≤ fr.1 ∨ cs.size ≤ fr.1) ∧ l.length ≤ cs.size ∧ ∀ j, j < l.length → cs[j]? = some (.int .u8 (byteAt l j).toNat)
section
variable {w w' : World} {g B : Nat} {t : TypeId} {l : List UInt8}
theorem ByteBuf.cell (h : ByteBuf w g t l) {j : Nat} (hj : j < l.length) : w.cell? ⟨g, j, none⟩ = some (.int .u8 (byteAt l j).toNat) := by
 obtain ⟨cs, fr, h, _, _, k⟩ := h
 rw [cell_of_row w g j cs t fr h, k j hj]
theorem conv_bytes {P : Program} (w : World) (src dst e : TypeId) (l : List UInt8) (hs : P.underlying src = some .string) (hd : P.underlying dst = some (.slice e)) (he : P.underlying e = some (.int .u8)) :
  ∃ w' cap, (convert src dst (.string (bs l))).run P w = .ok (.slice (some ⟨w.heap.size, 0, none⟩) l.length cap) w' ∧ ByteBuf w' w.heap.size e l ∧ Below w.heap.size w w' ∧ w'.heap.size = w.heap.size + 1 ∧ l.length ≤ cap := by
 have h := Lib.run_convert_string_bytes (P := P) w src dst e (bs l) hs hd he
 rw [bs_size] at h
 refine ⟨_, _, h, ⟨Lib.bytesCells w e (bs l), _, Lib.bytesWorld_at_new w e (bs l), .inr (Nat.le_refl _), ?_, fun j hj => ?_⟩, ?_, Lib.bytesWorld_size w e (bs l), ?_⟩
 ·simp [Lib.bytesCells]
 ·simp [Lib.bytesCells, Array.getElem?_append, hj, byteAt]
 ·exact ⟨rfl, rfl, rfl, by rw [Lib.bytesWorld_size]; omega, fun k hk => Lib.bytesWorld_at_old w e (bs l) k hk⟩
 ·exact Nat.le_add_right _ _
end
end Go.Proofs.YtbaedepmogkkeaaGreat
