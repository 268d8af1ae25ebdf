/- lru: its functions at values of a cache, walked. No conditions but that lengths are what memory holds. -/
import Derived.Test.YtdicpbecdhaphaaLru5
import Derived.Test.YtdicpbecdhaphaaCore
import Derived.RegionTactic
import Derived.ChangeAlike
import Derived.BigRegion
namespace Go.Proofs.Ytdicpbecdhaphaa.Av.LruK
open Go Go.RowKit
set_option linter.unusedVariables false
set_option linter.unusedSimpArgs false
set_option maxRecDepth 100000

abbrev tk : TypeId := 155
abbrev tL : TypeId := 150
abbrev zI : List Value := [.string ByteArray.empty, .bool false]
abbrev LruI := LruAt tk tL zI
section
variable {w : World} {g m h : Nat} {l1 l2 ls : List Lk} {l : Lk} {most : Int}
set_option maxHeartbeats 1000000 in
theorem leave_any (w : World) (x a n : Nat) (u1 u2 : Value) (c1 : w.cell? ⟨x, 3, none⟩ = some (pnt a)) (c2 : w.cell? ⟨x, 4, none⟩ = some (pnt n)) (c3 : w.cell? ⟨a, 4, none⟩ = some u1) (c4 : w.cell? ⟨n, 3, none⟩ = some u2) (f3 : w.frozen? ⟨a, 4, none⟩ = false) (f4 : w.frozen? ⟨n, 3, none⟩ = false) :
    Calls Try.prog 111 #[pnt x] w fun e w' => e = .returned (.tuple #[]) ∧ Alike (leaveW w 2 a n) w' := by
  go_enter Try.func111, Try.ntmps111
  go_wp2_with fail
  go_region
  exact ⟨rfl, .tuple #[], by simp [results, Try.results111], rfl, rfl, rfl, rfl, rfl⟩
set_option maxHeartbeats 1000000 in
theorem last_any (w : World) (g x h a : Nat) (u1 u2 u3 : Value) (c0 : w.cell? ⟨g, 2, none⟩ = some (pnt h)) (c1 : w.cell? ⟨h, 3, none⟩ = some (pnt a)) (c2 : w.cell? ⟨x, 3, none⟩ = some u1) (c3 : w.cell? ⟨x, 4, none⟩ = some u2) (c4 : w.cell? ⟨a, 4, none⟩ = some u3)
    (f1 : w.frozen? ⟨h, 3, none⟩ = false) (f2 : w.frozen? ⟨x, 3, none⟩ = false) (f3 : w.frozen? ⟨x, 4, none⟩ = false) (f4 : w.frozen? ⟨a, 4, none⟩ = false) (e1 : h ≠ x) (e2 : a ≠ x) (e3 : g ≠ x) :
    Calls Try.prog 112 #[pnt g, pnt x] w fun e w' => e = .returned (.tuple #[]) ∧ Alike (lastW w 2 x h a) w' := by
  go_enter Try.func112, Try.ntmps112
  go_wp2_with fail
  go_region
  go_wp2_with fail
  go_region
  exact ⟨rfl, .tuple #[], by simp [results, Try.results112], rfl, rfl, rfl, rfl, rfl⟩
set_option maxHeartbeats 1000000 in
theorem ok_any (w : World) (g h : Nat) (c0 : w.cell? ⟨g, 2, none⟩ = some (pnt h)) : Calls Try.prog 106 #[pnt g] w fun e w' => e = .returned (.bool true) ∧ w = w' := by
  go_enter Try.func106, Try.ntmps106
  go_wp2
  go_ret
  exact ⟨rfl, rfl⟩
set_option maxHeartbeats 1000000 in
theorem remove_any (w : World) (g x a n m : Nat) (k : List UInt8) (es : Array MapEntry) (clock j : Nat) (u1 u2 : Value) (c0 : w.cell? ⟨g, 1, none⟩ = some (.map (some m))) (hm : w.heap[m]? = some (.map es clock)) (hf : Instr.findNow .string (.string (bs k)) es.toList 0 = some (some (j, pnt x))) (ck : w.cell? ⟨x, 0, none⟩ = some (.string (bs k)))
    (c1 : w.cell? ⟨x, 3, none⟩ = some (pnt a)) (c2 : w.cell? ⟨x, 4, none⟩ = some (pnt n)) (c3 : w.cell? ⟨a, 4, none⟩ = some u1) (c4 : w.cell? ⟨n, 3, none⟩ = some u2) (f3 : w.frozen? ⟨a, 4, none⟩ = false) (f4 : w.frozen? ⟨n, 3, none⟩ = false) (e1 : m ≠ a) (e2 : m ≠ n) (e3 : g ≠ a) (e4 : g ≠ n) (e5 : x ≠ a) (e6 : x ≠ n) :
    Calls Try.prog 107 #[pnt g, pnt x] w fun e w' => e = .returned (.tuple #[]) ∧ Alike (putMap (leaveW w 2 a n) m (es.eraseIdxIfInBounds j) clock) w' := by
  go_enter Try.func107, Try.ntmps107
  go_wp2_with fail
  refine (leave_any w x a n u1 u2 c1 c2 c3 c4 f3 f4).mono ?_
  rintro e w1 ⟨rfl, hA⟩
  have d0 : w1.cell? ⟨g, 1, none⟩ = some (.map (some m)) := by
    have : w1.heap[g]? = w.heap[g]? := by rw [hA.1, setCell_other e4, setCell_other e3]
    simpa [World.cell?, this] using c0
  have d1 : w1.cell? ⟨x, 0, none⟩ = some (.string (bs k)) := by
    have : w1.heap[x]? = w.heap[x]? := by rw [hA.1, setCell_other e6, setCell_other e5]
    simpa [World.cell?, this] using ck
  have dm : w1.heap[m]? = some (.map es clock) := by rw [hA.1, setCell_other e2, setCell_other e1]; exact hm
  have hd := run_delete_yes (P := Try.prog) w1.drew 148 9 146 m clock j (bs k) (pnt x) es 0 Try.underlying148 Try.underlying9 dm hf
  have HA := Lib.hid hA
  clear hm hf dm hA c0 ck c1 c2 c3 c4 f3 f4
  go_wp2_with fail
  go_region
  refine ⟨rfl, .tuple #[], by simp [results, Try.results107], rfl, ?_⟩
  obtain ⟨h1, h2, h3, h4⟩ := HA.out
  exact ⟨by show w1.heap.setIfInBounds _ _ = _; rw [h1]; rfl, h2, h3, h4⟩
theorem mem_mid {y : Lk} (hy : y ∈ (⟨h, [], zI⟩ : Lk) :: (l1 ++ l2)) : y ∈ (⟨h, [], zI⟩ : Lk) :: (l1 ++ l :: l2) := by
  rcases List.mem_cons.1 hy with rfl | hy
  · simp
  · rcases List.mem_append.1 hy with hy | hy
    · simp [hy]
    · simp [hy]
theorem mem_l1 {y : Lk} (hy : y ∈ (⟨h, [], zI⟩ : Lk) :: l1) : y ∈ (⟨h, [], zI⟩ : Lk) :: (l1 ++ l2) := by
  rcases List.mem_cons.1 hy with rfl | hy
  · simp
  · simp [hy]
theorem mem_l2 {y : Lk} (hy : y ∈ (⟨h, [], zI⟩ : Lk) :: l2) : y ∈ (⟨h, [], zI⟩ : Lk) :: (l1 ++ l2) := by
  rcases List.mem_cons.1 hy with rfl | hy
  · simp
  · simp [hy]
theorem mid_ne (A : LruI w g m h (l1 ++ l :: l2) most) {y : Lk} (hy : y ∈ (⟨h, [], zI⟩ : Lk) :: (l1 ++ l2)) : l.x ≠ y.x := by
  have hap : (((⟨h, [], zI⟩ : Lk) :: (l1 ++ l :: l2)).map Lk.x).Nodup := A.apart
  have hperm : List.Perm ((⟨h, [], zI⟩ : Lk) :: (l1 ++ l :: l2)) (l :: (⟨h, [], zI⟩ : Lk) :: (l1 ++ l2)) := ((List.perm_middle (l₁ := l1) (a := l) (l₂ := l2)).cons _).trans (List.Perm.swap _ _ _)
  have := ((hperm.map Lk.x).nodup_iff.1 hap)
  exact fun e => (List.nodup_cons.1 this).1 (List.mem_map.2 ⟨y, hy, e.symm⟩)
theorem node_ahead (A : LruI w g m h ls most) {y : Lk} (hy : y ∈ (⟨h, [], zI⟩ : Lk) :: ls) : (∃ u, w.cell? ⟨y.x, 3, none⟩ = some u) ∧ (∃ u, w.cell? ⟨y.x, 4, none⟩ = some u) ∧ w.frozen? ⟨y.x, 3, none⟩ = false ∧ w.frozen? ⟨y.x, 4, none⟩ = false := by
  obtain ⟨a1, n1, N1⟩ := A.node hy
  have e1 : y.v.length = 2 := A.allv y hy
  obtain ⟨_, M2, M3, _, M5⟩ := N1.at
  rw [e1] at M2 M3 M5
  exact ⟨⟨_, M2⟩, ⟨_, M3⟩, M5 3 (by omega), M5 4 (by omega)⟩
/-- what a leaving asks of the cells -/
theorem leave_cells (A : LruI w g m h (l1 ++ l :: l2) most) : w.cell? ⟨l.x, 3, none⟩ = some (pnt (lstB h l1)) ∧ w.cell? ⟨l.x, 4, none⟩ = some (pnt (fstB l2 h)) ∧ (∃ u, w.cell? ⟨lstB h l1, 4, none⟩ = some u) ∧ (∃ u, w.cell? ⟨fstB l2 h, 3, none⟩ = some u) ∧ w.frozen? ⟨lstB h l1, 4, none⟩ = false ∧ w.frozen? ⟨fstB l2 h, 3, none⟩ = false ∧ w.cell? ⟨l.x, 0, none⟩ = some (.string (bs l.k)) := by
  have L := A.link
  obtain ⟨ya, hya, ea⟩ := lst_mem h zI l1
  obtain ⟨yn, hyn, en⟩ := fst_mem h zI l2
  obtain ⟨_, q1, _, q2⟩ := node_ahead A (mem_mid (mem_l1 hya))
  obtain ⟨q3, _, q4, _⟩ := node_ahead A (mem_mid (mem_l2 hyn))
  have e0 : l.v.length = 2 := A.vals l (by simp)
  obtain ⟨L1, L2, L3, _, _⟩ := L.at
  rw [e0] at L2 L3
  rw [ea, en] at *
  exact ⟨L2, L3, q1, q3, q2, q4, L1⟩
theorem hid_sub {x : Nat} (hs : ∀ y ∈ ls, y.x ∈ (l1 ++ l :: l2).map (·.x)) (hx : hidB m h ls x) : hidB m h (l1 ++ l :: l2) x := by
  rcases hx with rfl | rfl | ⟨y, hy, rfl⟩
  · exact .inl rfl
  · exact .inr (.inl rfl)
  · obtain ⟨z, hz, e⟩ := List.mem_map.1 (hs y hy)
    exact .inr (.inr ⟨z, hz, e.symm⟩)
set_option maxHeartbeats 1000000 in
theorem del_yes (A : LruI w g m h (l1 ++ l :: l2) most) : Calls Try.prog 82 #[pnt g, .string (bs l.k)] w fun e w' => e = .returned (.bool true) ∧ LruTurn tk tL zI w g m h (l1 ++ l :: l2) w' most (itemsOf (l1 ++ l2)) := by
  obtain ⟨es, c, hm, ho⟩ := A.mp
  obtain ⟨c1, c2, ⟨u1, c3⟩, ⟨u2, c4⟩, f3, f4, ck⟩ := leave_cells A
  obtain ⟨g0, g1, g2, _⟩ := A.head
  obtain ⟨j, e, hj, hek, hev, hf⟩ := ho.find A.keys (l := l) (by simp)
  have R := A.removed hm ho hj hek hev
  have hl := run_lookup_yes (P := Try.prog) w 148 9 146 m c j (bs l.k) (pnt l.x) es Try.underlying148 Try.underlying9 hm hf
  obtain ⟨ya, hya, ea⟩ := lst_mem h zI l1
  obtain ⟨yn, hyn, en⟩ := fst_mem h zI l2
  have cr := remove_any w g l.x (lstB h l1) (fstB l2 h) m l.k es c j u1 u2 g1 hm hf ck c1 c2 c3 c4 f3 f4 (by rw [ea]; exact A.m_ne (mem_mid (mem_l1 hya))) (by rw [en]; exact A.m_ne (mem_mid (mem_l2 hyn))) (by rw [ea]; exact A.g_ne (mem_mid (mem_l1 hya))) (by rw [en]; exact A.g_ne (mem_mid (mem_l2 hyn))) (by rw [ea]; exact mid_ne A (mem_l1 hya)) (by rw [en]; exact mid_ne A (mem_l2 hyn))
  have co := ok_any w g h g2
  have HR := Lib.hid R
  clear R hf hm ho hj hek hev A c1 c2 c3 c4 f3 f4 ck ea en hya hyn
  go_enter Try.func82, Try.ntmps82
  go_wp2_with fail
  refine co.mono ?_
  rintro e w1 ⟨rfl, rfl⟩
  go_wp2_with fail
  refine cr.mono ?_
  rintro e w1 ⟨rfl, hA⟩
  go_wp2
  go_ret
  obtain ⟨R1, R2⟩ := HR.out
  exact ⟨rfl, m, h, l1 ++ l2, R1.alike hA, rfl, (R2.alike hA).held, fun x hx => .inl (hid_sub (fun y hy => by
    rcases List.mem_append.1 hy with hy | hy
    · exact List.mem_map_of_mem (by simp [hy])
    · exact List.mem_map_of_mem (by simp [hy])) hx)⟩
theorem zero_ptr (w : World) : (zeroValue 146).run Try.prog w = .ok (.pointer none) w := by
  obtain ⟨i, hi, hz⟩ : ∃ i, Try.prog.info? 146 = some i ∧ i.zero = some (.pointer none) := ⟨_, rfl, rfl⟩
  simp [zeroValue, typeInfo, hi, hz]
set_option maxHeartbeats 1000000 in
theorem del_no (A : LruI w g m h ls most) {k : List UInt8} (hk : ∀ y ∈ ls, y.k ≠ k) : Calls Try.prog 82 #[pnt g, .string (bs k)] w fun e w' => e = .returned (.bool false) ∧ w = w' := by
  obtain ⟨es, c, hm, ho⟩ := A.mp
  obtain ⟨g0, g1, g2, _⟩ := A.head
  have hl := run_lookup_no (P := Try.prog) w 148 9 146 m c (bs k) es Try.underlying148 Try.underlying9 (zero_ptr w) hm (ho.none hk)
  have co := ok_any w g h g2
  clear hm ho A hk
  go_enter Try.func82, Try.ntmps82
  go_wp2_with fail
  refine co.mono ?_
  rintro e w1 ⟨rfl, rfl⟩
  go_wp2
  go_ret
  exact ⟨rfl, rfl⟩
end
end Go.Proofs.Ytdicpbecdhaphaa.Av.LruK
