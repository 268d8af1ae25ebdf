/- quill: the law on scanning holds of every Scan and all sizes. No conditions. -/
import Derived.Test.YtfonmnodjmeigaaScans1
namespace Go.Proofs.Ytfonmnodjmeigaa.Av
open Go Go.RowKit
set_option linter.unusedVariables false
set_option linter.unusedSimpArgs false

theorem bs_size (l : List UInt8) : (bs l).size = l.length := by simp [bs, ByteArray.size]
theorem scans_all (t : List UInt8) (p b : Int) (L : List Int) (hL : ∀ n ∈ L, -9223372036854775808 ≤ n ∧ n ≤ 9223372036854775807) :
    SP 3 [scB t p b, .vs L.length (L.map Z)] (B true) := by
  by_cases ht : 400 < (bs t).size
  · exact scans_over t p b _ _ (.inl ht)
  · by_cases hn : 40 < L.length
    · exact scans_over t p b _ _ (.inr hn)
    · have hl : t.length ≤ 400 := by rw [bs_size] at ht; omega
      exact scans_walk t p b L ht (by omega) hL
        (fun p b => ⟨_, _, _, row_snd ⟨t, p, b⟩ (by simp only; omega), by have := rrow_snd ⟨t, p, b⟩ (by simp only; omega); exact this⟩)
        (fun p b z => ⟨_, _, _, snum_snd ⟨t, p, b⟩ z (by simp only; omega), by have := rsnum_snd ⟨t, p, b⟩ z (by simp only; omega); exact this⟩)
        (fun p b => ⟨_, rest_snd ⟨t, p, b⟩ (by simp only; omega), by have := rrest_snd ⟨t, p, b⟩ (by simp only; omega); exact this⟩)
        (fun p b => ⟨_, end_snd ⟨t, p, b⟩ (by simp only; omega), by have := rend_snd ⟨t, p, b⟩ (by simp only; omega); exact this⟩)
theorem cells_scan {cs : Array Value} (h : CellsOk [.str, .int .i64, .int .i64] cs.toList) : ∃ (t : List UInt8) (p b : Int), cs = #[.string (bs t), .int .i64 p, .int .i64 b] := by
  obtain ⟨v0, r0, e0, ⟨t, rfl, ht⟩, hr0⟩ := h.cons_
  obtain ⟨v1, r1, e1, ⟨k1, rfl, hk1⟩, hr1⟩ := hr0.cons_
  obtain ⟨v2, r2, e2, ⟨k2, rfl, hk2⟩, hr2⟩ := hr1.cons_
  have e3 := hr2.empty_
  subst e3 e2 e1
  refine ⟨t, k1, k2, ?_⟩
  apply Array.ext'
  rw [e0]
theorem quillScans_walk (a : Array Value) (rows : List (List Value)) (n : Nat) (F : Nat → Nat → Prop) (v : Value) (w : World) (ha : CellsOk [.str, .int .i64, .int .i64] a.toList) (hq : rows.length = n) (hz : n ≤ 9223372036854775807)
    (hok : ∀ r ∈ rows, CellsOk [.int .i64] r) (hlo : ∀ g j, F g j → g < w.heap.size) (hrep : ∀ F' : Nat → Nat → Prop, (∀ g j, F g j → F' g j) → Rep w p0 c0 F' noD (.vs n (rows.flatten.map .ex)) v) :
    Calls Try.prog 3 #[.agg a, v] w fun e w' => e = .returned (.bool true) ∧ Below w.heap.size w w' := by
  obtain ⟨t, p, b, rfl⟩ := cells_scan ha
  obtain ⟨L, h1, h2, h3⟩ := rows_Z hok
  have hr := hrep F fun _ _ h => h
  rw [h2, ← hq, ← h1] at hr
  refine calls_at (scans_all t p b L h3) w F hlo _ rfl fun j hj => ?_
  match j, hj with
  | 0, _ => exact .ex _ _
  | 1, _ => exact hr
end Go.Proofs.Ytfonmnodjmeigaa.Av
