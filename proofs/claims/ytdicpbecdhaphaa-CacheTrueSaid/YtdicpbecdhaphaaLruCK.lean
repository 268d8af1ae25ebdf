/- lru: made, New, Clear at values of a cache, walked. No conditions but that lengths are what memory holds. -/
import Derived.Test.YtdicpbecdhaphaaLruBK
namespace Go.Proofs.Ytdicpbecdhaphaa.Av.LruK
open Go Go.RowKit
set_option linter.unusedVariables false
set_option linter.unusedSimpArgs false
set_option maxRecDepth 100000

section
variable {w : World} {g m h : Nat} {l1 l2 ls : List Lk} {l : Lk} {most : Int}
/-- a new one: all of it is new -/
def Made (w : World) (most : Int) (xs : List (List UInt8 × List Value)) (e : Ending) (w' : World) : Prop :=
  ∃ g m h ls, e = .returned (pnt g) ∧ LruI w' g m h ls most ∧ itemsOf ls = xs ∧ Only w (fun _ => False) w' ∧ w.heap.size ≤ g ∧ ∀ x, hidB m h ls x → w.heap.size ≤ x
set_option maxHeartbeats 2000000 in
theorem made_ok (w : World) (most : Int) : Calls Try.prog 105 #[.int .i64 most] w (Made w most []) := by
  have hmm : ∀ W : World, (Instr.makeMap 148 none).run Try.prog W = .ok (.map (some W.heap.size)) (W.alloc (.map #[] 0)) := fun _ => rfl
  go_enter Try.func105, Try.ntmps105
  go_wp2
  go_ret
  have h0 := heap_alloc_at w (.cells (lkC [] zI w.heap.size w.heap.size) tk)
  have h1 := heap_alloc_at (w.alloc (.cells (lkC [] zI w.heap.size w.heap.size) tk)) (.map #[] 0)
  have h2 := heap_alloc_at ((w.alloc (.cells (lkC [] zI w.heap.size w.heap.size) tk)).alloc (.map #[] 0)) (.cells #[.int .i64 most, .map (some (w.heap.size + 1)), pnt w.heap.size] tL)
  rw [size_alloc] at h1
  rw [size_alloc, size_alloc] at h2
  have o1 : Only w (fun _ => False) (w.alloc (.cells (lkC [] zI w.heap.size w.heap.size) tk)) := Only.alloc1 _ _
  have o2 := o1.trans (Only.alloc1 (S := fun _ => False) _ (.map #[] 0)) fun _ _ h => h
  have o3 := o2.trans (Only.alloc1 (S := fun _ => False) _ (.cells #[.int .i64 most, .map (some (w.heap.size + 1)), pnt w.heap.size] tL)) fun _ _ h => h
  refine ⟨w.heap.size + 2, w.heap.size + 1, w.heap.size, [], rfl, LruAt.empty (c := 0) (by omega) h2 ?_ ?_, rfl, o3, by omega, ?_⟩
  · exact (heap_alloc _ _ (by rw [size_alloc, size_alloc]; omega)).trans h1
  · exact (heap_alloc _ _ (by rw [size_alloc, size_alloc]; omega)).trans ((heap_alloc _ _ (by rw [size_alloc]; omega)).trans h0)
  · rintro x (rfl | rfl | ⟨y, hy, rfl⟩)
    · omega
    · omega
    · cases hy
set_option maxHeartbeats 2000000 in
theorem clear_ok (A : LruI w g m h ls most) : Calls Try.prog 84 #[pnt g] w fun e w' => e = .returned (.tuple #[]) ∧ LruTurn tk tL zI w g m h ls w' most [] := by
  obtain ⟨g0, g1, g2, g3⟩ := A.head
  have co := ok_any w g h g2
  have cm := made_ok w most
  have HA := Lib.hid A
  have f0 := g3 0 (by omega)
  have f1 := g3 1 (by omega)
  have f2 := g3 2 (by omega)
  clear A g3
  go_enter Try.func84, Try.ntmps84
  go_wp2_with fail
  refine co.mono ?_
  rintro e w1 ⟨rfl, rfl⟩
  go_wp2_with fail
  refine cm.mono ?_
  rintro e w1 ⟨g', m', h', ls', rfl, A', hx, hO, hg', hh'⟩
  have hls : ls' = [] := by
    cases ls' with
    | nil => rfl
    | cons y ys => simp [itemsOf] at hx
  subst hls
  have A1 := HA.out.only hO
  obtain ⟨k0, k1, k2, _⟩ := A'.head
  obtain ⟨j0, j1, j2, j3⟩ := A1.head
  have f0 := j3 0 (by omega)
  have f1 := j3 1 (by omega)
  have f2 := j3 2 (by omega)
  have hgg := heap_lt HA.out.hd
  have HH := Lib.hid (And.intro A' (And.intro hO (And.intro A1 (And.intro hg' hh'))))
  clear A' hO A1 hh' j3 hg'
  go_wp2_with fail
  obtain ⟨A', hO, A1, hg', hh'⟩ := HH.out
  have hh1 := hh' h' (.inr (.inl rfl))
  have hm1 := hh' m' (.inl rfl)
  obtain ⟨es, c, q1, q2⟩ := A'.mp
  have hes := q2.len
  have hes : es = #[] := by
    have : es.toList = [] := List.length_eq_zero_iff.1 hes
    exact Array.toList_eq_nil_iff.1 this
  subst hes
  have o1 : Only w (fun x => x = g ∨ hidB m h ls x) w1 := only_up hO fun _ h => h.elim
  refine ⟨rfl, .tuple #[], by simp [results, Try.results84], rfl, m', h', [], LruAt.empty (c := c) (by omega) ?_ ?_ ?_, rfl, (((o1.setCell (.inl rfl) _).setCell (.inl rfl) _).setCell (.inl rfl) _).held, ?_⟩
  · exact (setCell_heap (setCell_heap (setCell_heap A1.hd _) _) _).trans rfl
  · rw [setCell_other (by omega), setCell_other (by omega), setCell_other (by omega)]
    exact q1
  · have := A'.first
    unfold Nd at this ⊢
    rw [setCell_other (by omega), setCell_other (by omega), setCell_other (by omega)]
    exact this
  · rintro x (rfl | rfl | ⟨y, hy, rfl⟩)
    · exact .inr hm1
    · exact .inr hh1
    · cases hy
end
end Go.Proofs.Ytdicpbecdhaphaa.Av.LruK
