/- quill: rows split again, both sides walked: they tell the plain split. -/
import Derived.Test.YtbaedepmogkkeaaGreatScanWalks4
import Derived.Test.YtbaedepmogkkeaaGreatVals
namespace Go.Proofs.YtbaedepmogkkeaaGreat
set_option linter.unusedSimpArgs false
set_option linter.unusedVariables false
open Go.RowKit

/-- Rows split, with fuel. -/
def Quill.Sc.split : Nat → Quill.Sc → List (List UInt8) → List (List UInt8) × Int
  | 0, _, l => (l, 0)
  | f + 1, s, l =>
    if (s.text.length : Int) - s.pos > 0 then
      if l.length = 1024 then ([], 24)
      else if s.row.2.bad ≠ 0 then ([], s.row.2.bad)
      else Quill.Sc.split f s.row.2 (l ++ [s.row.1])
    else (l, 0)
def Quill.split (t : List UInt8) : List (List UInt8) × Int := Quill.Sc.split (t.length + 1) ⟨t, 0, 0⟩ []

theorem Quill.Sc.num_fwd (s : Quill.Sc) (h : (s.num 2).2.bad = 0) : (s.num 2).2.pos = s.pos + 2 := by
  unfold Quill.Sc.num at h ⊢
  by_cases hb : s.bad ≠ 0
  · rw [if_pos hb] at h; exact absurd h hb
  · rw [if_neg hb] at h ⊢
    by_cases h2 : s.stands = false ∨ (2 : Int) < 1 ∨ 8 < (2 : Int)
    · rw [if_pos h2] at h; simp [Quill.Sc.fails] at h
    · rw [if_neg h2] at h ⊢
      by_cases h3 : (s.text.length : Int) - s.pos < 2
      · rw [if_pos h3] at h; simp [Quill.Sc.fails] at h
      · rw [if_neg h3]
theorem Quill.Sc.row_ok (t : List UInt8) (q : Nat) (h : (Quill.Sc.row ⟨t, (q : Int), 0⟩).2.bad = 0) :
    ∃ q2 : Nat, (Quill.Sc.row ⟨t, (q : Int), 0⟩).2 = ⟨t, (q2 : Int), 0⟩ ∧ q < q2 ∧ q2 ≤ t.length := by
  unfold Quill.Sc.row at h ⊢
  by_cases hb : (Quill.Sc.num ⟨t, (q : Int), 0⟩ 2).2.bad = 0
  · obtain ⟨p, hp, hp2, hx⟩ := Quill.Sc.num_ok _ hb
    have hf := Quill.Sc.num_fwd _ hb
    simp only at hf hp2
    rw [if_neg (by simpa using hb)] at h ⊢
    by_cases h3 : (t.length : Int) - (Quill.Sc.num ⟨t, (q : Int), 0⟩ 2).2.pos < ((Quill.Sc.num ⟨t, (q : Int), 0⟩ 2).1 : Int)
    · rw [if_pos h3] at h; simp [Quill.Sc.fails] at h
    · rw [if_neg h3]
      rw [hp] at hf h3 ⊢
      exact ⟨p + (Quill.Sc.num ⟨t, (q : Int), 0⟩ 2).1, by simp, by omega, by omega⟩
  · rw [if_pos hb] at h; exact absurd h hb

/-- Own texts and an error. -/
def RetTE (base : Nat) (w : World) (R : List (List UInt8) × Int) (e : Ending) (w' : World) : Prop :=
  ∃ A n c, e = .returned (.tuple #[.slice A n c, .int .i64 R.2]) ∧ OwnT w' base A n c R.1 ∧ Below base w w'
theorem RetTE.low {base b : Nat} {w w' : World} {R : List (List UInt8) × Int} {e : Ending} (h : RetTE base w R e w') (hb : b ≤ base) : RetTE b w R e w' := by
  obtain ⟨A, k, c, he, ho, hl⟩ := h
  exact ⟨A, k, c, he, ho.low hb, hl.mono hb⟩
/-- A split's head: what stands in the box, the texts, and what they will come to. -/
def AtHead (w : World) (T : TypeId) (t : List UInt8) (wr : World) (q : Nat) (A : Option Addr) (n c : Nat) : Prop :=
  ∃ L, OwnT wr (w.heap.size + 1) A n c L ∧ Blk wr w.heap.size T #[.string (bs t), .int .i64 (q : Int), .int .i64 0] ∧ Below w.heap.size w wr ∧ w.heap.size < wr.heap.size ∧ q ≤ t.length ∧ n ≤ 1024 ∧
    ∃ f, t.length - q < f ∧ Quill.Sc.split f ⟨t, (q : Int), 0⟩ L = Quill.split t
def placeOf (w wr : World) : Nat := (intOf ((wr.cell? ⟨w.heap.size, 1, none⟩).getD (.bool false))).toNat
theorem placeOf_blk {w wr : World} {T : TypeId} {a c : Value} {q : Nat} (h : Blk wr w.heap.size T #[a, .int .i64 (q : Int), c]) : placeOf w wr = q := by
  rw [placeOf, h.c3.1.2.1]; simp [intOf]
theorem split_end {f : Nat} {t : List UInt8} {q : Nat} {L : List (List UInt8)} (hf : t.length - q < f) (hq : q = t.length) : Quill.Sc.split f ⟨t, (q : Int), 0⟩ L = (L, 0) := by
  obtain ⟨f, rfl⟩ : ∃ g, f = g + 1 := ⟨f - 1, by omega⟩
  rw [Quill.Sc.split, if_neg (by simp [hq])]
theorem split_many {f : Nat} {t : List UInt8} {q : Nat} {L : List (List UInt8)} (hf : t.length - q < f) (hq : q < t.length) (hL : L.length = 1024) : Quill.Sc.split f ⟨t, (q : Int), 0⟩ L = ([], 24) := by
  obtain ⟨f, rfl⟩ : ∃ g, f = g + 1 := ⟨f - 1, by omega⟩
  rw [Quill.Sc.split, if_pos (by simp; omega), if_pos hL]
theorem split_bad {f : Nat} {t : List UInt8} {q : Nat} {L : List (List UInt8)} (hf : t.length - q < f) (hq : q < t.length) (hL : L.length ≠ 1024) (hb : (Quill.Sc.row ⟨t, (q : Int), 0⟩).2.bad ≠ 0) :
    Quill.Sc.split f ⟨t, (q : Int), 0⟩ L = ([], (Quill.Sc.row ⟨t, (q : Int), 0⟩).2.bad) := by
  obtain ⟨f, rfl⟩ : ∃ g, f = g + 1 := ⟨f - 1, by omega⟩
  rw [Quill.Sc.split, if_pos (by simp; omega), if_neg hL, if_pos hb]
theorem split_next {f : Nat} {t : List UInt8} {q q2 : Nat} {L : List (List UInt8)} (hf : t.length - q < f) (hq : q < t.length) (hL : L.length ≠ 1024)
    (hb : (Quill.Sc.row ⟨t, (q : Int), 0⟩).2 = ⟨t, (q2 : Int), 0⟩) (hlt : q < q2) :
    ∃ g, t.length - q2 < g ∧ Quill.Sc.split f ⟨t, (q : Int), 0⟩ L = Quill.Sc.split g ⟨t, (q2 : Int), 0⟩ (L ++ [(Quill.Sc.row ⟨t, (q : Int), 0⟩).1]) := by
  obtain ⟨f, rfl⟩ : ∃ g, f = g + 1 := ⟨f - 1, by omega⟩
  refine ⟨f, by omega, ?_⟩
  rw [Quill.Sc.split, if_pos (by simp; omega), if_neg hL, if_neg (by rw [hb]; simp), hb]
theorem RdT.one_ {g : Nat} (w : World) (l : List UInt8) (h : w.heap.size = g) : RdT (w.alloc (.cells #[.string (bs l)] 9)) (some ⟨g, 0, none⟩) 1 [l] := h ▸ RdT.one w l
theorem OwnT.set3 {w : World} {base n c g : Nat} {A : Option Addr} {L : List (List UInt8)} (h : OwnT w base A n c L) (hg : g < base) (a b d : Value) :
    OwnT (((w.setCell ⟨g, 0, none⟩ a).setCell ⟨g, 1, none⟩ b).setCell ⟨g, 2, none⟩ d) base A n c L := by
  have one : ∀ (w : World) (i : Nat) (v : Value), OwnT w base A n c L → OwnT (w.setCell ⟨g, i, none⟩ v) base A n c L := by
    intro w i v h
    refine h.keep fun k hk => ?_
    have hl := h.2.lt hk
    simp only at hl
    exact heap_setCell_other w ⟨g, i, none⟩ k v (by simp; omega)
  exact one _ _ _ (one _ _ _ (one _ _ _ h))

end Go.Proofs.YtbaedepmogkkeaaGreat
