/- lru: Put of a new key where there is no room, at values of a cache, walked. No conditions but that lengths are what memory holds. -/
import Derived.Test.YtdicpbecdhaphaaLru8K
namespace Go.Proofs.Ytdicpbecdhaphaa.Av.LruK
open Go Go.RowKit
set_option linter.unusedVariables false
set_option linter.unusedSimpArgs false
set_option maxRecDepth 100000

section
variable {w : World} {g m h : Nat} {l1 l2 ls : List Lk} {l : Lk} {most : Int}
set_option maxHeartbeats 2000000 in
theorem put_full (A : LruI w g m h ls most) {k : List UInt8} (hk : ∀ y ∈ ls, y.k ≠ k) (t : List UInt8) (b : Bool) (hlen : (ls.length : Int) = most) (hL : ls ++ [⟨(w.heap.size + 1), k, [.string (bs t), .bool b]⟩] = l :: l2) : Calls Try.prog 109 #[pnt g, .string (bs k), .agg #[.string (bs t), .bool b]] w fun e w' => e = .returned (.tuple #[.string (bs l.k), .bool true]) ∧ LruTurn tk tL zI w g m h ls w' most (itemsOf l2) := by
  have lm : m < w.heap.size := A.lt (.inl rfl)
  have A := A.alloc (.cells #[.string (bs t), .bool b] 124)
  obtain ⟨es, c, hm, ho⟩ := A.mp
  obtain ⟨g0, g1, g2, _⟩ := A.head
  have hno := ho.none hk
  have hl := run_lookup_no (P := Try.prog) (w.alloc (.cells #[.string (bs t), .bool b] 124)) 148 9 146 m c (bs k) es Try.underlying148 Try.underlying9 (zero_ptr _) hm hno
  have co := ok_any (w.alloc (.cells #[.string (bs t), .bool b] 124)) g h g2
  obtain ⟨q1, q2, q3, q4, q5, q6, q7, q8, q9, q10, e1, e2, e3, e4, q11⟩ := A.come (v := [.string (bs t), .bool b]) hm ho hk rfl (F := fun W => setV W (w.alloc (.cells #[.string (bs t), .bool b] 124)).heap.size t b) (fun W hN => setV_lk t b hN) (fun W x hx => setV_other t b hx) (fun W S hS hx => setV_only t b hS hx)
  have hmu := run_mapUpdate_new (P := Try.prog) ((w.alloc (.cells #[.string (bs t), .bool b] 124)).alloc (.cells (lkV k zI (.pointer none) (.pointer none)) tk)) 148 9 146 m c (bs k) (pnt (w.alloc (.cells #[.string (bs t), .bool b] 124)).heap.size) es Try.underlying148 Try.underlying9 q2 hno
  obtain ⟨_, q1b, _⟩ := hd_cells (es := #[]) (q1.trans A.hd)
  obtain ⟨r1, r2⟩ := lk_at rfl q3
  obtain ⟨z1, r3⟩ := r1 1 (by omega)
  have r4 := r2 1 (by omega)
  obtain ⟨z2, r5⟩ := r1 2 (by omega)
  have r6 := r2 2 (by omega)
  have bx : (putMap ((w.alloc (.cells #[.string (bs t), .bool b] 124)).alloc (.cells (lkV k zI (.pointer none) (.pointer none)) tk)) m (es.push ⟨.string (bs k), pnt (w.alloc (.cells #[.string (bs t), .bool b] 124)).heap.size, c⟩) (c + 1)).heap[w.heap.size]? = some (.cells #[.string (bs t), .bool b] 124 (0, 0)) := (putMap_other (by omega)).trans ((heap_alloc _ _ (by rw [size_alloc]; omega)).trans (heap_alloc_at _ _))
  have bx1 := cellAt bx (j := 0) (by show 0 < 2; omega)
  have bx2 := cellAt bx (j := 1) (by show 1 < 2; omega)
  obtain ⟨t1, t2⟩ := lk_at rfl q5
  obtain ⟨y2, t3⟩ := t1 3 (by omega)
  obtain ⟨y3, t4⟩ := t1 4 (by omega)
  have t5 := t2 3 (by omega)
  have t6 := t2 4 (by omega)
  obtain ⟨u1, ⟨y4, u2⟩, u3, u4⟩ := rng_last q6 fun y hy => A.vals y hy
  obtain ⟨_, _, u5⟩ := hd_cells (es := #[]) (q7.trans A.hd)
  have cl := last_any _ g (w.alloc (.cells #[.string (bs t), .bool b] 124)).heap.size h (lstB h ls) _ _ _ u5 u1 t3 t4 u2 u3 t5 t6 u4 e1 e2 e3
  have hes : (((es.push ⟨.string (bs k), pnt (w.alloc (.cells #[.string (bs t), .bool b] 124)).heap.size, c⟩).size : Nat) : Int) > most := by
    have := ho.len
    simp only [Array.length_toList] at this
    rw [Array.size_push]
    omega
  rw [Array.size_push, Int.natCast_add] at hes
  have hle : decide (((es.size : Nat) : Int) + 1 ≤ most) = false := decide_eq_false (Int.not_le.2 hes)
  have HM := Lib.hid (And.intro q8 (And.intro q9 (And.intro q10 q11)))
  have ev : lkV k zI (.pointer none) (.pointer none) = #[.string (bs k), .string (bs []), .bool false, .pointer none, .pointer none] := rfl
  rw [ev] at q1b hmu r3 r4 cl HM
  rw [ev] at r5 r6 bx1 bx2
  have es1 := size_alloc w (.cells #[.string (bs t), .bool b] 124)
  rw [es1] at hmu r3 r4 r5 r6 cl HM bx1 bx2
  clear bx
  clear hm hno ho q1 q2 q3 q4 q5 q6 q7 q8 q9 q10 q11 r1 r2 t1 t2 t3 t4 t5 t6 u1 u2 u3 u4 u5 hes A hk
  go_enter Try.func109, Try.ntmps109
  go_wp2_with fail
  refine co.mono ?_
  rintro e w1 ⟨rfl, rfl⟩
  go_wp2_with fail
  refine cl.mono ?_
  rintro e w2 ⟨rfl, hB⟩
  obtain ⟨Hm, HL, HO, HP⟩ := HM.out
  have hd2 := (congrArg (·[g]?) hB.1).trans HL.hd
  have hm2 := (congrArg (·[m]?) hB.1).trans Hm
  obtain ⟨P0, P1, _⟩ := hd_cells (es := #[]) hd2
  have hln := run_len_map (P := Try.prog) w2.drew 9 146 m (c + 1) (es.push ⟨.string (bs k), pnt (w.heap.size + 1), c⟩) 148 3 Try.underlying148 hm2
  have hB2 := hB.trans (Alike.drew _)
  have A3 : LruI w2.drew g m h ([] ++ l :: l2) most := by
    have := HL.alike hB2
    rw [hL] at this
    exact this
  have HP3 : MapOk (es.push ⟨.string (bs k), pnt (w.heap.size + 1), c⟩).toList ([] ++ l :: l2) := by
    have := HP
    rw [hL] at this
    exact this
  obtain ⟨c1, c2, ⟨u1, c3⟩, ⟨u2, c4⟩, f3, f4, ck⟩ := leave_cells A3
  obtain ⟨_, g1', g2', _⟩ := A3.head
  obtain ⟨_, _, hn0, _, _⟩ := A3.first.at
  have hn1 : w2.drew.cell? ⟨h, 4, none⟩ = some (pnt l.x) := hn0
  obtain ⟨j, e, hj, hek, hev, hf⟩ := HP3.find A3.keys (l := l) (by simp)
  have R := A3.removed (hm2 : w2.drew.heap[m]? = _) HP3 hj hek hev
  obtain ⟨yn, hyn, en⟩ := fst_mem h zI l2
  have n1 : m ≠ h := A3.m_ne (y := ⟨h, [], zI⟩) List.mem_cons_self
  have n2 : m ≠ fstB l2 h := by rw [en]; exact A3.m_ne (mem_mid (mem_l2 hyn))
  have n3 : g ≠ h := A3.g_ne (y := ⟨h, [], zI⟩) List.mem_cons_self
  have n4 : g ≠ fstB l2 h := by rw [en]; exact A3.g_ne (mem_mid (mem_l2 hyn))
  have n5 : l.x ≠ h := mid_ne A3 (y := ⟨h, [], zI⟩) List.mem_cons_self
  have n6 : l.x ≠ fstB l2 h := by rw [en]; exact mid_ne A3 (mem_l2 hyn)
  have n7 : l.x ≠ m := (A3.m_ne (List.mem_cons_of_mem _ (by simp))).symm
  have cr := remove_any w2.drew g l.x h (fstB l2 h) m l.k _ (c + 1) j u1 u2 g1' hm2 hf ck c1 c2 c3 c4 f3 f4 n1 n2 n3 n4 n5 n6
  have kk : (putMap (leaveW w2.drew 2 h (fstB l2 h)) m ((es.push ⟨.string (bs k), pnt (w.heap.size + 1), c⟩).eraseIdxIfInBounds j) (c + 1)).cell? ⟨l.x, 0, none⟩ = some (.string (bs l.k)) := by
    have : (putMap (leaveW w2.drew 2 h (fstB l2 h)) m ((es.push ⟨.string (bs k), pnt (w.heap.size + 1), c⟩).eraseIdxIfInBounds j) (c + 1)).heap[l.x]? = w2.drew.heap[l.x]? := by
      rw [putMap_other n7, setCell_other n6, setCell_other n5]
    simpa [World.cell?, this] using ck
  have HB := Lib.hid (And.intro hB2 R)
  clear hB HL HO hd2 hm2 hmu q1b r3 r4 r5 r6 bx1 bx2 hB2 R A3 HP3 HP Hm hj hek hev hf ck c1 c2 c3 c4 f3 f4 hyn en n1 n2 n3 n4 n5 n6 n7 hn0 g1'
  go_wp2_with fail
  go_region
  go_wp2_with fail
  refine cr.mono ?_
  rintro e w3 ⟨rfl, hC⟩
  have kk := (hC.cell _).trans kk
  go_wp2
  go_ret2
  obtain ⟨_, _, HO, _⟩ := HM.out
  obtain ⟨B1, R1, R2⟩ := HB.out
  have hsub : ∀ y ∈ l :: l2, hidB m h ls y.x ∨ y.x = (w.heap.size + 1) := fun y hy => by
    rw [← hL] at hy
    rcases List.mem_append.1 hy with hy | hy
    · exact .inl (.inr (.inr ⟨y, hy, rfl⟩))
    · rcases List.mem_singleton.1 hy with rfl
      exact .inr rfl
  refine ⟨rfl, m, h, l2, R1.alike hC, rfl, (((HO.alike B1).alloc0).trans (R2.alike hC) fun x hx hs => ?_).held, fun x hx => ?_⟩
  · rcases hs with rfl | rfl | rfl | ⟨y, hy, rfl⟩
    · exact .inl rfl
    · exact .inr (.inl rfl)
    · exact .inr (.inr (.inl rfl))
    · rcases hsub y hy with e | e
      · exact .inr e
      · omega
  · rcases hx with rfl | rfl | ⟨y, hy, rfl⟩
    · exact .inl (.inl rfl)
    · exact .inl (.inr (.inl rfl))
    · rcases hsub y (List.mem_cons_of_mem _ hy) with e | e
      · exact .inl e
      · exact .inr (by omega)
end
end Go.Proofs.Ytdicpbecdhaphaa.Av.LruK
