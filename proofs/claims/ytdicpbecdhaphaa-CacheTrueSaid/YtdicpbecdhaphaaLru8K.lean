/- lru: Put of a new key, at values of a cache, walked. No conditions but that lengths are what memory holds. -/
import Derived.Test.YtdicpbecdhaphaaLru7K
namespace Go.Proofs.Ytdicpbecdhaphaa.Av.LruK
open Go Go.RowKit
set_option linter.unusedVariables false
set_option linter.unusedSimpArgs false
set_option maxRecDepth 100000

section
variable {w : World} {g m h : Nat} {l1 l2 ls : List Lk} {l : Lk} {most : Int}
theorem setV_lk {W : World} {x : Nat} {k : List UInt8} (t : List UInt8) (b : Bool) (hN : W.heap[x]? = some (.cells (lkV k zI (.pointer none) (.pointer none)) tk (0, 0))) : (setV W x t b).heap[x]? = some (.cells (lkV k [.string (bs t), .bool b] (.pointer none) (.pointer none)) tk (0, 0)) := by
  rw [setCell_heap (setCell_heap hN _)]
  rfl
theorem lk_at {W : World} {x : Nat} {k : List UInt8} {v : List Value} {a b : Value} (hv : v.length = 2) (hN : W.heap[x]? = some (.cells (lkV k v a b) tk (0, 0))) : (∀ j, j < 2 + 3 → ∃ u, W.cell? ⟨x, j, none⟩ = some u) ∧ ∀ j, j < 2 + 3 → W.frozen? ⟨x, j, none⟩ = false := by
  have hs := lkV_size k v a b
  rw [hv] at hs
  exact ⟨fun j hj => ⟨_, cellAt hN (by omega)⟩, fun j hj => thawAt hN (by omega)⟩
theorem rng_last {W : World} (hr : Rng tk W ⟨h, [], zI⟩ ls) (hls : ∀ y ∈ ls, y.v.length = 2) : W.cell? ⟨h, 3, none⟩ = some (pnt (lstB h ls)) ∧ (∃ u, W.cell? ⟨lstB h ls, 4, none⟩ = some u) ∧ W.frozen? ⟨h, 3, none⟩ = false ∧ W.frozen? ⟨lstB h ls, 4, none⟩ = false := by
  have h1 : Nd tk W h [] zI (lstB h ls) (fstB ls h) := hr.1
  obtain ⟨_, a1, _, _, a2⟩ := h1.at
  obtain ⟨y, hy, ey⟩ := lst_mem h zI ls
  obtain ⟨a', n', hn⟩ := seg_node hr y hy
  have hyv : y.v.length = 2 := by
    rcases List.mem_cons.1 hy with rfl | hy
    · rfl
    · exact hls y hy
  obtain ⟨_, _, c1, _, c2⟩ := hn.at
  rw [hyv] at c1 c2
  rw [← ey] at c1 c2
  exact ⟨a1, ⟨_, c1⟩, a2 3 (by show 3 < 2 + 3; omega), c2 4 (by omega)⟩
set_option maxHeartbeats 2000000 in
theorem put_new (A : LruI w g m h ls most) {k : List UInt8} (hk : ∀ y ∈ ls, y.k ≠ k) (t : List UInt8) (b : Bool) (hlen : (ls.length : Int) < most) : Calls Try.prog 109 #[pnt g, .string (bs k), .agg #[.string (bs t), .bool b]] w fun e w' => e = .returned (.tuple #[.string ByteArray.empty, .bool false]) ∧ LruTurn tk tL zI w g m h ls w' most (itemsOf (ls ++ [⟨0, k, [.string (bs t), .bool b]⟩])) := by
  have lm : m < w.heap.size := A.lt (.inl rfl)
  have A := A.alloc (.cells #[.string (bs t), .bool b] 124)
  obtain ⟨es, c, hm, ho⟩ := A.mp
  obtain ⟨g0, g1, g2, _⟩ := A.head
  have hno := ho.none hk
  have hl := run_lookup_no (P := Try.prog) (w.alloc (.cells #[.string (bs t), .bool b] 124)) 148 9 146 m c (bs k) es Try.underlying148 Try.underlying9 (zero_ptr _) hm hno
  have co := ok_any (w.alloc (.cells #[.string (bs t), .bool b] 124)) g h g2
  obtain ⟨q1, q2, q3, q4, q5, q6, q7, q8, q9, q10, e1, e2, e3, e4, _⟩ := A.come (v := [.string (bs t), .bool b]) hm ho hk rfl (F := fun W => setV W (w.alloc (.cells #[.string (bs t), .bool b] 124)).heap.size t b) (fun W hN => setV_lk t b hN) (fun W x hx => setV_other t b hx) (fun W S hS hx => setV_only t b hS hx)
  have hmu := run_mapUpdate_new (P := Try.prog) ((w.alloc (.cells #[.string (bs t), .bool b] 124)).alloc (.cells (lkV k zI (.pointer none) (.pointer none)) tk)) 148 9 146 m c (bs k) (pnt (w.alloc (.cells #[.string (bs t), .bool b] 124)).heap.size) es Try.underlying148 Try.underlying9 q2 hno
  obtain ⟨_, q1b, _⟩ := hd_cells (es := #[]) (q1.trans A.hd)
  obtain ⟨r1, r2⟩ := lk_at rfl q3
  obtain ⟨z1, r3⟩ := r1 1 (by omega)
  have r4 := r2 1 (by omega)
  obtain ⟨z2, r5⟩ := r1 2 (by omega)
  have r6 := r2 2 (by omega)
  have bx : (putMap ((w.alloc (.cells #[.string (bs t), .bool b] 124)).alloc (.cells (lkV k zI (.pointer none) (.pointer none)) tk)) m (es.push ⟨.string (bs k), pnt (w.alloc (.cells #[.string (bs t), .bool b] 124)).heap.size, c⟩) (c + 1)).heap[w.heap.size]? = some (.cells #[.string (bs t), .bool b] 124 (0, 0)) := (putMap_other (by omega)).trans ((heap_alloc _ _ (by rw [size_alloc]; omega)).trans (heap_alloc_at _ _))
  have bx1 := cellAt bx (j := 0) (by show 0 < 2; omega)
  have bx2 := cellAt bx (j := 1) (by show 1 < 2; omega)
  obtain ⟨t1, t2⟩ := lk_at rfl q5
  obtain ⟨y2, t3⟩ := t1 3 (by omega)
  obtain ⟨y3, t4⟩ := t1 4 (by omega)
  have t5 := t2 3 (by omega)
  have t6 := t2 4 (by omega)
  obtain ⟨u1, ⟨y4, u2⟩, u3, u4⟩ := rng_last q6 fun y hy => A.vals y hy
  obtain ⟨_, _, u5⟩ := hd_cells (es := #[]) (q7.trans A.hd)
  have cl := last_any _ g (w.alloc (.cells #[.string (bs t), .bool b] 124)).heap.size h (lstB h ls) _ _ _ u5 u1 t3 t4 u2 u3 t5 t6 u4 e1 e2 e3
  have hes : (((es.push ⟨.string (bs k), pnt (w.alloc (.cells #[.string (bs t), .bool b] 124)).heap.size, c⟩).size : Nat) : Int) ≤ most := by
    have := ho.len
    simp only [Array.length_toList] at this
    rw [Array.size_push]
    omega
  rw [Array.size_push, Int.natCast_add] at hes
  have hle : decide (((es.size : Nat) : Int) + 1 ≤ most) = true := decide_eq_true hes
  have HM := Lib.hid (And.intro q8 (And.intro q9 q10))
  have ev : lkV k zI (.pointer none) (.pointer none) = #[.string (bs k), .string (bs []), .bool false, .pointer none, .pointer none] := rfl
  rw [ev] at q1b hmu r3 r4 cl HM
  rw [ev] at r5 r6 bx1 bx2
  have es1 := size_alloc w (.cells #[.string (bs t), .bool b] 124)
  rw [es1] at hmu r3 r4 r5 r6 cl HM bx1 bx2
  clear bx
  clear hm hno ho q1 q2 q3 q4 q5 q6 q7 q8 q9 q10 r1 r2 t1 t2 t3 t4 t5 t6 u1 u2 u3 u4 u5 hes A hk
  go_enter Try.func109, Try.ntmps109
  go_wp2_with fail
  refine co.mono ?_
  rintro e w1 ⟨rfl, rfl⟩
  go_wp2_with fail
  refine cl.mono ?_
  rintro e w2 ⟨rfl, hB⟩
  obtain ⟨Hm, HL, HO⟩ := HM.out
  have hd2 := (congrArg (·[g]?) hB.1).trans HL.hd
  have hm2 := (congrArg (·[m]?) hB.1).trans Hm
  obtain ⟨P0, P1, _⟩ := hd_cells (es := #[]) hd2
  have hln := run_len_map (P := Try.prog) w2.drew 9 146 m (c + 1) (es.push ⟨.string (bs k), pnt (w.heap.size + 1), c⟩) 148 3 Try.underlying148 hm2
  have HB := Lib.hid hB
  clear hB Hm HL HO hd2 hm2 hmu q1b r3 r4 r5 r6 bx1 bx2
  go_wp2_with fail
  go_region
  go_wp2
  go_ret2
  obtain ⟨_, R1, R2⟩ := HM.out
  have e := HB.out.trans (Alike.drew _)
  refine ⟨rfl, m, h, _, R1.alike e, ?_, (R2.alloc0.alike e).held, fun x hx => ?_⟩
  · simp [itemsOf]
  · rcases hx with rfl | rfl | ⟨y, hy, rfl⟩
    · exact .inl (.inl rfl)
    · exact .inl (.inr (.inl rfl))
    · rcases List.mem_append.1 hy with hy | hy
      · exact .inl (.inr (.inr ⟨y, hy, rfl⟩))
      · rcases List.mem_singleton.1 hy with rfl
        exact .inr (Nat.le_succ _)
end
end Go.Proofs.Ytdicpbecdhaphaa.Av.LruK
