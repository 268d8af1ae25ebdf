/- lru: Peek of a key that is not there, Get, at values of a cache, walked. No conditions but that lengths are what memory holds. -/
import Derived.Test.YtdicpbecdhaphaaLruAK
namespace Go.Proofs.Ytdicpbecdhaphaa.Av.LruK
open Go Go.RowKit
set_option linter.unusedVariables false
set_option linter.unusedSimpArgs false
set_option maxRecDepth 100000

section
variable {w : World} {g m h : Nat} {l1 l2 ls : List Lk} {l : Lk} {most : Int}
set_option maxHeartbeats 2000000 in
theorem peek_no (A : LruI w g m h ls most) {k : List UInt8} (hk : ∀ y ∈ ls, y.k ≠ k) : Calls Try.prog 110 #[pnt g, .string (bs k)] w fun e w' => e = .returned (.tuple #[.agg #[.string (bs []), .bool false], .bool false]) ∧ Only w (fun _ => False) w' := by
  have A := (A.alloc (.cells #[.string (bs []), .bool false] 124)).alloc (.cells #[.string (bs []), .bool false] 124)
  obtain ⟨es, c, hm, ho⟩ := A.mp
  obtain ⟨g0, g1, g2, _⟩ := A.head
  have hl := run_lookup_no (P := Try.prog) ((w.alloc (.cells #[.string (bs []), .bool false] 124)).alloc (.cells #[.string (bs []), .bool false] 124)) 148 9 146 m c (bs k) es Try.underlying148 Try.underlying9 (zero_ptr _) hm (ho.none hk)
  have co := ok_any ((w.alloc (.cells #[.string (bs []), .bool false] 124)).alloc (.cells #[.string (bs []), .bool false] 124)) g h g2
  clear hm ho A hk
  go_enter Try.func110, Try.ntmps110
  go_wp2_with fail
  refine co.mono ?_
  rintro e w1 ⟨rfl, rfl⟩
  go_wp2_with fail
  exact bodyPost_ret (results_row_tmp rfl _ _ w.heap.size 124 _ _ rfl ((heap_alloc _ _ (by rw [size_alloc]; omega)).trans (heap_alloc_at _ _)) Try.underlying124 rfl info_known) rfl ⟨rfl, ((Only.alloc1 _ _).trans (Only.alloc1 _ _) fun _ _ h => h)⟩
set_option maxHeartbeats 2000000 in
theorem get_no (A : LruI w g m h ls most) {k : List UInt8} (hk : ∀ y ∈ ls, y.k ≠ k) : Calls Try.prog 86 #[pnt g, .string (bs k)] w fun e w' => e = .returned (.tuple #[.agg #[.string (bs []), .bool false], .bool false]) ∧ Only w (fun _ => False) w' := by
  have A := A.alloc (.cells #[.string (bs []), .bool false] 124)
  have cp := peek_no A hk
  clear A hk
  go_enter Try.func86, Try.ntmps86
  go_wp2_with fail
  refine cp.mono ?_
  rintro e w1 ⟨rfl, hO⟩
  have hb : w1.heap[w.heap.size]? = some (.cells #[.string (bs []), .bool false] 124 (0, 0)) := (hO.block _ (by rw [size_alloc]; omega) id).trans (heap_alloc_at _ _)
  have b1 := cellAt hb (j := 0) (by show 0 < 2; omega)
  have b2 := cellAt hb (j := 1) (by show 1 < 2; omega)
  have b3 := thawAt hb (j := 0) (by show 0 < 2; omega)
  have b4 := thawAt hb (j := 1) (by show 1 < 2; omega)
  have b5 := heap_lt hb
  have HO := Lib.hid (And.intro hO hb)
  clear hO hb
  go_wp2_with fail
  obtain ⟨hO, hb⟩ := HO.out
  refine bodyPost_ret (results_row_tmp rfl _ _ w.heap.size 124 _ _ rfl ((heap_alloc _ _ (by simp [World.setCell]; exact b5)).trans (setCell_heap (setCell_heap hb _) _)) Try.underlying124 rfl info_known) rfl ⟨rfl, Only.shrink ?_⟩
  have o1 : Only w (fun y => False ∨ w.heap.size ≤ y) w1 := Only.trans (Only.alloc1 w _) hO fun _ _ h => h.elim
  exact ((o1.setCell (.inr (Nat.le_refl _)) _).setCell (.inr (Nat.le_refl _)) _).trans (Only.alloc1 _ _) fun _ _ h => h
theorem only_up {u : World} {S S' : Nat → Prop} (h : Only u S w) (hs : ∀ x, S x → S' x) : Only u S' w :=
  ⟨h.os, h.tape, h.output, h.size, fun k hk hn => h.block k hk fun e => hn (hs k e)⟩
set_option maxHeartbeats 2000000 in
theorem get_yes (A : LruI w g m h (l1 ++ l :: l2) most) (t : List UInt8) (b : Bool) (hlv : l.v = [.string (bs t), .bool b]) : Calls Try.prog 86 #[pnt g, .string (bs l.k)] w fun e w' => e = .returned (.tuple #[.agg #[.string (bs t), .bool b], .bool true]) ∧ LruTurn tk tL zI w g m h (l1 ++ l :: l2) w' most (itemsOf (l1 ++ l2 ++ [l])) := by
  have hlt : ∀ y ∈ (⟨h, [], zI⟩ : Lk) :: (l1 ++ l :: l2), y.x < w.heap.size := fun y hy => by
    obtain ⟨a, n, h1⟩ := A.node hy
    exact heap_lt h1
  have HLT := Lib.hid (And.intro (heap_lt A.hd) fun x (hx : hidB m h (l1 ++ l :: l2) x) => A.lt hx)
  have A := A.alloc (.cells #[.string (bs []), .bool false] 124)
  have cp := peek_yes A t b hlv
  have HA := Lib.hid A
  clear A
  go_enter Try.func86, Try.ntmps86
  go_wp2_with fail
  refine cp.mono ?_
  rintro e w1 ⟨rfl, hO⟩
  have A := HA.out.only hO
  have hb : w1.heap[w.heap.size]? = some (.cells #[.string (bs []), .bool false] 124 (0, 0)) := (hO.block _ (by rw [size_alloc]; omega) id).trans (heap_alloc_at _ _)
  have b5 := heap_lt hb
  have A := A.alloc (.cells #[.string (bs t), .bool b] 124)
  obtain ⟨es, c, hm, ho⟩ := A.mp
  obtain ⟨g0, g1, g2, _⟩ := A.head
  obtain ⟨j, e, hj, hek, hev, hf⟩ := ho.find A.keys (l := l) (by simp)
  have hl := run_lookup_one (P := Try.prog) (w1.alloc (.cells #[.string (bs t), .bool b] 124)) 148 9 146 m c j (bs l.k) (pnt l.x) es Try.underlying148 Try.underlying9 hm hf
  obtain ⟨c1, c2, ⟨u1, c3⟩, ⟨u2, c4⟩, f3, f4, ck⟩ := leave_cells A
  have cl := leave_any (w1.alloc (.cells #[.string (bs t), .bool b] 124)) l.x (lstB h l1) (fstB l2 h) u1 u2 c1 c2 c3 c4 f3 f4
  have R := A.move (v' := l.v) (A.vals l (by simp)) (F := id) (fun _ _ _ h => h) (fun _ _ _ => rfl) (fun _ _ h _ => h)
  obtain ⟨M1, M2, M3, M4, M5, M6, M7⟩ := A.mid (v' := l.v) (F := id) (fun _ _ _ h => h) (fun _ _ _ => rfl)
  obtain ⟨N1, ⟨v1, N2⟩, ⟨v2, N3⟩, ⟨v3, N4⟩, N5, N6, N7, N8⟩ := last_cells M1 M3 (by rw [hlv]; rfl) (fun y hy => A.vals y (by
    rcases List.mem_append.1 hy with hy | hy
    · simp [hy]
    · simp [hy]))
  have e1 : h ≠ l.x := M7 ⟨h, [], zI⟩ List.mem_cons_self
  have e2 : lstB h (l1 ++ l2) ≠ l.x := by
    obtain ⟨y, hy, ey⟩ := lst_mem h zI (l1 ++ l2)
    rw [ey]; exact M7 y hy
  have e3 : g ≠ l.x := A.g1.2 l (by simp)
  obtain ⟨_, _, K2⟩ := hd_cells (es := #[]) (M4.trans A.hd)
  have hsub : ∀ x, hidB m h (l1 ++ l2 ++ [⟨l.x, l.k, l.v⟩]) x → hidB m h (l1 ++ l :: l2) x := fun x hx => hid_sub (fun y hy => by
    rcases List.mem_append.1 hy with hy | hy
    · rcases List.mem_append.1 hy with hy | hy
      · exact List.mem_map_of_mem (by simp [hy])
      · exact List.mem_map_of_mem (by simp [hy])
    · rcases List.mem_singleton.1 hy with rfl
      exact List.mem_map.2 ⟨l, by simp, rfl⟩) hx
  have hbw : ∀ y, w.heap.size ≤ y → (lastW (leaveW (w1.alloc (.cells #[.string (bs t), .bool b] 124)) 2 (lstB h l1) (fstB l2 h)) 2 l.x h (lstB h (l1 ++ l2))).heap[y]? = (w1.alloc (.cells #[.string (bs t), .bool b] 124)).heap[y]? := fun y hy => by
    obtain ⟨y1, hy1, ey1⟩ := lst_mem h zI (l1 ++ l2)
    obtain ⟨y2, hy2, ey2⟩ := lst_mem h zI l1
    obtain ⟨y3, hy3, ey3⟩ := fst_mem h zI l2
    have q0 := hlt ⟨h, [], zI⟩ List.mem_cons_self
    have q1 := hlt y1 (mem_mid hy1)
    have q2 := hlt y2 (mem_mid (mem_l1 hy2))
    have q3 := hlt y3 (mem_mid (mem_l2 hy3))
    have q4 := hlt l (List.mem_cons_of_mem _ (by simp))
    have q0 : h < w.heap.size := q0
    rw [setCell_other (by omega), setCell_other (by omega), setCell_other (by omega), setCell_other (by omega), setCell_other (by omega), setCell_other (by omega)]
  have bx1 := (hbw _ (Nat.le_refl _)).trans ((heap_alloc _ _ b5).trans hb)
  have bx2 := (hbw _ (Nat.le_of_lt b5)).trans (heap_alloc_at _ _)
  clear hbw hb hlt
  have HR := Lib.hid (And.intro R hsub)
  have HO := Lib.hid (And.intro hO trivial)
  clear R hf hm ho hj hek hev A c1 c2 c3 c4 f3 f4 ck M1 M2 M3 M4 M5 M6 M7 hsub hlv hO
  go_wp2_with fail
  refine cl.mono ?_
  rintro e w2 ⟨rfl, hA⟩
  have N1 := (hA.cell _).trans N1
  have N2 := (hA.cell _).trans N2
  have N3 := (hA.cell _).trans N3
  have N4 := (hA.cell _).trans N4
  have K2 := (hA.cell _).trans K2
  have N5 := (hA.frozen _).trans N5
  have N6 := (hA.frozen _).trans N6
  have N7 := (hA.frozen _).trans N7
  have N8 := (hA.frozen _).trans N8
  have HA2 := Lib.hid hA
  clear hA
  go_wp2_with fail
  refine (last_any _ g l.x h (lstB h (l1 ++ l2)) _ _ _ K2 N1 N2 N3 N4 N5 N6 N7 N8 e1 e2 e3).mono ?_
  rintro e w3 ⟨rfl, hB⟩
  have hE := (lastW_alike (x := l.x) (h := h) (a := lstB h (l1 ++ l2)) HA2.out).trans hB
  have x1 := (congrArg (·[w.heap.size]?) hE.1).trans bx1
  have x2 := (congrArg (·[w1.heap.size]?) hE.1).trans bx2
  have v1 := cellAt x2 (j := 0) (by show 0 < 2; omega)
  have v2 := cellAt x2 (j := 1) (by show 1 < 2; omega)
  have t1 := cellAt x1 (j := 0) (by show 0 < 2; omega)
  have t2 := cellAt x1 (j := 1) (by show 1 < 2; omega)
  have t3 := thawAt x1 (j := 0) (by show 0 < 2; omega)
  have t4 := thawAt x1 (j := 1) (by show 1 < 2; omega)
  have HE := Lib.hid (And.intro hE (And.intro x1 x2))
  clear hE x1 x2 bx1 bx2 N1 N2 N3 N4 N5 N6 N7 N8 K2 hB
  go_wp2_with fail
  obtain ⟨⟨R1, R2⟩, R3⟩ := HR.out
  obtain ⟨e, x1, _⟩ := HE.out
  obtain ⟨hO, _⟩ := HO.out
  obtain ⟨l1', l2'⟩ := HLT.out
  have o0 : Only w (fun _ => False) w1 := Only.trans (Only.alloc1 w _) hO fun _ _ h => h
  have o2 : Only w (fun _ => False) (w1.alloc (.cells #[.string (bs t), .bool b] 124)) := o0.trans (Only.alloc1 (S := fun _ => False) _ _) fun _ _ h => h
  have o1 : Only w (fun y => (y = g ∨ hidB m h (l1 ++ l :: l2) y) ∨ w.heap.size ≤ y) w3 :=
    Only.trans (only_up o2 fun _ h => h.elim) (R2.alike e) fun _ _ h => .inl h
  refine bodyPost_ret (results_row_tmp rfl _ _ w.heap.size 124 _ _ rfl (setCell_heap (setCell_heap x1 _) _) Try.underlying124 rfl info_known) rfl ⟨rfl, m, h, _, (R1.alike e).same ?_ ?_, rfl, ((o1.setCell (.inr (Nat.le_refl _)) _).setCell (.inr (Nat.le_refl _)) _).shrink.held, fun x hx => .inl (R3 x hx)⟩
  · rw [setCell_other (by omega), setCell_other (by omega)]
  · intro x hx
    have := l2' x (R3 x hx)
    rw [setCell_other (by omega), setCell_other (by omega)]
end
end Go.Proofs.Ytdicpbecdhaphaa.Av.LruK
