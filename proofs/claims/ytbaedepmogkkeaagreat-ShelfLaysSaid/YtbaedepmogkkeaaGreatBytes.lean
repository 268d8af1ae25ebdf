/- A block that holds the bytes of a text and is nobody else's: what the conversion of a text to bytes makes; how it is read, written, and turned into a text again. No program's law is stated here. No conditions. -/
import Derived.Test.YtbaedepmogkkeaaGreatBase
import Derived.Lib.ConvBytes
namespace Go.Proofs.YtbaedepmogkkeaaGreat
set_option linter.unusedSimpArgs false
set_option linter.unusedVariables false
set_option maxRecDepth 100000
open Go.RowKit

/-- Block g is a row whose first cells are the bytes l; no cell of the row is frozen. -/
def ByteBuf (w : World) (g : Nat) (t : TypeId) (l : List UInt8) : Prop :=
  ∃ cs fr, w.heap[g]? = some (.cells cs t fr) ∧ (fr.2 ≤ fr.1 ∨ cs.size ≤ fr.1) ∧ l.length ≤ cs.size ∧ ∀ j, j < l.length → cs[j]? = some (.int .u8 (byteAt l j).toNat)

section
variable {w w' : World} {g B : Nat} {t : TypeId} {l : List UInt8}
theorem ByteBuf.lt (h : ByteBuf w g t l) : g < w.heap.size := by
  obtain ⟨cs, fr, h, _⟩ := h
  apply Classical.byContradiction
  intro hn
  rw [Array.getElem?_eq_none (by omega)] at h
  cases h
theorem ByteBuf.keep (h : ByteBuf w g t l) (e : w'.heap[g]? = w.heap[g]?) : ByteBuf w' g t l := by
  obtain ⟨cs, fr, h, k⟩ := h
  exact ⟨cs, fr, e.trans h, k⟩
theorem ByteBuf.drew (h : ByteBuf w g t l) : ByteBuf w.drew g t l := h
theorem ByteBuf.drewN (h : ByteBuf w g t l) (n : Nat) : ByteBuf (w.drewN n) g t l := h
theorem ByteBuf.alloc (h : ByteBuf w g t l) (o : Obj) : ByteBuf (w.alloc o) g t l := h.keep (Below.heap_alloc w o g h.lt)
theorem ByteBuf.far (h : ByteBuf w g t l) {p : Addr} (hp : g ≠ p.block) (v : Value) : ByteBuf (w.setCell p v) g t l := h.keep (heap_setCell_other w p g v hp)
theorem ByteBuf.below (h : ByteBuf w g t l) (hb : Below B w w') (hg : g < B) : ByteBuf w' g t l := h.keep (hb.block g hg)
theorem ByteBuf.cell (h : ByteBuf w g t l) {j : Nat} (hj : j < l.length) : w.cell? ⟨g, j, none⟩ = some (.int .u8 (byteAt l j).toNat) := by
  obtain ⟨cs, fr, h, _, _, k⟩ := h
  rw [cell_of_row w g j cs t fr h, k j hj]
theorem ByteBuf.frozen (h : ByteBuf w g t l) {j : Nat} (hj : j < l.length) : w.frozen? ⟨g, j, none⟩ = false := by
  obtain ⟨cs, fr, h, hf, hl, _⟩ := h
  simp only [World.frozen?, h]
  rcases hf with hf | hf
  · simp; omega
  · simp; omega
theorem ByteBuf.set (h : ByteBuf w g t l) {i : Nat} (x : UInt8) (hi : i < l.length) : ByteBuf (w.setCell ⟨g, i, none⟩ (.int .u8 x.toNat)) g t (l.set i x) := by
  obtain ⟨cs, fr, h, hf, hl, k⟩ := h
  refine ⟨cs.setIfInBounds i (.int .u8 x.toNat), fr, ?_, by simpa using hf, by simpa using hl, fun j hj => ?_⟩
  · simp only [World.setCell, Array.getElem?_modify, h]
    simp
  · rw [List.length_set] at hj
    rw [Array.getElem?_setIfInBounds]
    by_cases e : i = j
    · subst e
      rw [if_pos rfl, if_pos (by omega)]
      simp [byteAt, hi]
    · rw [if_neg e, k j hj]
      simp [byteAt, e]
theorem ByteBuf.string {P : Program} {src dst : TypeId} (h : ByteBuf w g t l) (hs : P.underlying src = some (.slice t)) (he : P.underlying t = some (.int .u8)) (hd : P.underlying dst = some .string) (cap : Nat) :
    (convert src dst (.slice (some ⟨g, 0, none⟩) l.length cap)).run P w = .ok (.string (bs l)) w :=
  run_convert_bs w src dst t ⟨g, 0, none⟩ cap l hs he hd fun j hj => by
    rw [addr_add, Nat.zero_add, h.cell hj, byteAt_lt hj]
/-- '[]byte(s)'. -/
theorem conv_bytes {P : Program} (w : World) (src dst e : TypeId) (l : List UInt8) (hs : P.underlying src = some .string) (hd : P.underlying dst = some (.slice e)) (he : P.underlying e = some (.int .u8)) :
    ∃ w' cap, (convert src dst (.string (bs l))).run P w = .ok (.slice (some ⟨w.heap.size, 0, none⟩) l.length cap) w' ∧ ByteBuf w' w.heap.size e l ∧ Below w.heap.size w w' ∧ w'.heap.size = w.heap.size + 1 ∧ l.length ≤ cap := by
  have h := Lib.run_convert_string_bytes (P := P) w src dst e (bs l) hs hd he
  rw [bs_size] at h
  refine ⟨_, _, h, ⟨Lib.bytesCells w e (bs l), _, Lib.bytesWorld_at_new w e (bs l), .inr (Nat.le_refl _), ?_, fun j hj => ?_⟩, ?_, Lib.bytesWorld_size w e (bs l), ?_⟩
  · simp [Lib.bytesCells]
  · simp [Lib.bytesCells, Array.getElem?_append, hj, byteAt]
  · exact ⟨rfl, rfl, rfl, by rw [Lib.bytesWorld_size]; omega, fun k hk => Lib.bytesWorld_at_old w e (bs l) k hk⟩
  · exact Nat.le_add_right _ _
end
end Go.Proofs.YtbaedepmogkkeaaGreat
