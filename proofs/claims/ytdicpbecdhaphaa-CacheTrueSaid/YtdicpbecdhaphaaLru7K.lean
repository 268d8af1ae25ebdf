/- lru: Put of a key that is there, at values of a cache, walked. No conditions but that lengths are what memory holds. -/
import Derived.Test.YtdicpbecdhaphaaLru6K
namespace Go.Proofs.Ytdicpbecdhaphaa.Av.LruK
open Go Go.RowKit
set_option linter.unusedVariables false
set_option linter.unusedSimpArgs false
set_option maxRecDepth 100000

section
variable {w : World} {g m h : Nat} {l1 l2 ls : List Lk} {l : Lk} {most : Int}
/-- a value is stored -/
abbrev setV (W : World) (x : Nat) (t : List UInt8) (b : Bool) : World := (W.setCell ⟨x, 1, none⟩ (.string (bs t))).setCell ⟨x, 2, none⟩ (.bool b)
theorem setV_nd {W : World} {x a c : Nat} {k : List UInt8} {v : List Value} (t : List UInt8) (b : Bool) (hv : v.length = 2) (hN : Nd tk W x k v a c) : Nd tk (setV W x t b) x k [.string (bs t), .bool b] a c := by
  unfold Nd at *
  rw [setCell_heap (setCell_heap hN _)]
  obtain ⟨q, r, rfl⟩ : ∃ q r, v = [q, r] := (by match v, hv with | [q, r], _ => exact ⟨q, r, rfl⟩)
  rfl
theorem setV_other {W : World} {x y : Nat} (t : List UInt8) (b : Bool) (hy : y ≠ x) : (setV W x t b).heap[y]? = W.heap[y]? := (setCell_other hy).trans (setCell_other hy)
theorem setV_only {W : World} {S : Nat → Prop} {x : Nat} (t : List UInt8) (b : Bool) (hS : Only w S W) (hx : S x) : Only w S (setV W x t b) := (hS.setCell hx _).setCell hx _
theorem setV_alike {u W : World} (x : Nat) (t : List UInt8) (b : Bool) (h : Alike u W) : Alike (setV u x t b) (setV W x t b) := (h.setCell _ _).setCell _ _
theorem lastW_alike {u W : World} {x h a : Nat} (e : Alike u W) : Alike (lastW u 2 x h a) (lastW W 2 x h a) := (((e.setCell _ _).setCell _ _).setCell _ _).setCell _ _
/-- what a coming asks of the cells -/
theorem last_cells {W : World} {x : Nat} {k : List UInt8} {v : List Value} {a n : Nat} (hr : Rng tk W ⟨h, [], zI⟩ ls) (hN : Nd tk W x k v a n) (hv : v.length = 2) (hls : ∀ y ∈ ls, y.v.length = 2) :
    W.cell? ⟨h, 3, none⟩ = some (pnt (lstB h ls)) ∧ (∃ u, W.cell? ⟨x, 3, none⟩ = some u) ∧ (∃ u, W.cell? ⟨x, 4, none⟩ = some u) ∧ (∃ u, W.cell? ⟨lstB h ls, 4, none⟩ = some u) ∧ W.frozen? ⟨h, 3, none⟩ = false ∧ W.frozen? ⟨x, 3, none⟩ = false ∧ W.frozen? ⟨x, 4, none⟩ = false ∧ W.frozen? ⟨lstB h ls, 4, none⟩ = false := by
  have h1 : Nd tk W h [] zI (lstB h ls) (fstB ls h) := hr.1
  obtain ⟨_, a1, _, _, a2⟩ := h1.at
  obtain ⟨_, b1, b2, _, b3⟩ := hN.at
  obtain ⟨y, hy, ey⟩ := lst_mem h zI ls
  obtain ⟨a', n', hn⟩ := seg_node hr y hy
  have hyv : y.v.length = 2 := by
    rcases List.mem_cons.1 hy with rfl | hy
    · rfl
    · exact hls y hy
  obtain ⟨_, _, c1, _, c2⟩ := hn.at
  rw [hv] at b1 b2 b3
  rw [hyv] at c1 c2
  rw [← ey] at c1 c2
  exact ⟨a1, ⟨_, b1⟩, ⟨_, b2⟩, ⟨_, c1⟩, a2 3 (by show 3 < 2 + 3; omega), b3 3 (by omega), b3 4 (by omega), c2 4 (by omega)⟩
theorem hd_cells {W : World} {es : Array Value} (h1 : W.heap[g]? = some (.cells #[.int .i64 most, .map (some m), pnt h] tL (0, 0))) : W.cell? ⟨g, 0, none⟩ = some (.int .i64 most) ∧ W.cell? ⟨g, 1, none⟩ = some (.map (some m)) ∧ W.cell? ⟨g, 2, none⟩ = some (pnt h) :=
  ⟨cellAt h1 (by show 0 < 3; omega), cellAt h1 (by show 1 < 3; omega), cellAt h1 (by show 2 < 3; omega)⟩
set_option maxHeartbeats 2000000 in
theorem put_there (A : LruI w g m h (l1 ++ l :: l2) most) (t : List UInt8) (b : Bool) (hlen : ((l1 ++ l :: l2).length : Int) ≤ most) : Calls Try.prog 109 #[pnt g, .string (bs l.k), .agg #[.string (bs t), .bool b]] w fun e w' => e = .returned (.tuple #[.string ByteArray.empty, .bool false]) ∧ LruTurn tk tL zI w g m h (l1 ++ l :: l2) w' most (itemsOf (l1 ++ l2 ++ [⟨l.x, l.k, [.string (bs t), .bool b]⟩])) := by
  have hbx := LruAt.box A t b 124 l1 l2
  have A := A.alloc (.cells #[.string (bs t), .bool b] 124)
  obtain ⟨es, c, hm, ho⟩ := A.mp
  obtain ⟨c1, c2, ⟨u1, c3⟩, ⟨u2, c4⟩, f3, f4, ck⟩ := leave_cells A
  obtain ⟨g0, g1, g2, _⟩ := A.head
  obtain ⟨j, e, hj, hek, hev, hf⟩ := ho.find A.keys (l := l) (by simp)
  have hvl : l.v.length = 2 := A.vals l (by simp)
  have R := A.move (v' := [.string (bs t), .bool b]) rfl (F := fun W => setV W l.x t b) (fun W _ _ hN => setV_nd t b hvl hN) (fun W x hx => setV_other t b hx) (fun W S hS hx => setV_only t b hS hx)
  obtain ⟨M1, M2, M3, M4, M5, M6, M7⟩ := A.mid (v' := [.string (bs t), .bool b]) (F := fun W => setV W l.x t b) (fun W _ _ hN => setV_nd t b hvl hN) (fun W x hx => setV_other t b hx)
  have hl := run_lookup_yes (P := Try.prog) (w.alloc (.cells #[.string (bs t), .bool b] 124)) 148 9 146 m c j (bs l.k) (pnt l.x) es Try.underlying148 Try.underlying9 hm hf
  have cl := leave_any (w.alloc (.cells #[.string (bs t), .bool b] 124)) l.x (lstB h l1) (fstB l2 h) u1 u2 c1 c2 c3 c4 f3 f4
  have co := ok_any (w.alloc (.cells #[.string (bs t), .bool b] 124)) g h g2
  obtain ⟨N1, ⟨v1, N2⟩, ⟨v2, N3⟩, ⟨v3, N4⟩, N5, N6, N7, N8⟩ := last_cells M1 M3 rfl (fun y hy => A.vals y (by
    rcases List.mem_append.1 hy with hy | hy
    · simp [hy]
    · simp [hy]))
  obtain ⟨_, _, _, X4, X5⟩ := M2.at
  rw [hvl] at X5
  obtain ⟨q1, X1⟩ : ∃ q, (leaveW (w.alloc (.cells #[.string (bs t), .bool b] 124)) 2 (lstB h l1) (fstB l2 h)).cell? ⟨l.x, 1, none⟩ = some q := ⟨_, X4 0 (by omega)⟩
  have Y1 := X5 1 (by omega)
  obtain ⟨q2, X2⟩ : ∃ q, (leaveW (w.alloc (.cells #[.string (bs t), .bool b] 124)) 2 (lstB h l1) (fstB l2 h)).cell? ⟨l.x, 2, none⟩ = some q := ⟨_, X4 1 (by omega)⟩
  have Y2 := X5 2 (by omega)
  have e1 : h ≠ l.x := M7 ⟨h, [], zI⟩ List.mem_cons_self
  have e2 : lstB h (l1 ++ l2) ≠ l.x := by
    obtain ⟨y, hy, ey⟩ := lst_mem h zI (l1 ++ l2)
    rw [ey]; exact M7 y hy
  have e3 : g ≠ l.x := A.g1.2 l (by simp)
  obtain ⟨_, _, K2⟩ := hd_cells (es := #[]) (M4.trans A.hd)
  have hes : (es.size : Int) ≤ most := by
    have := ho.len
    simp only [Array.length_toList] at this
    omega
  have hsub : ∀ x, hidB m h (l1 ++ l2 ++ [⟨l.x, l.k, [.string (bs t), .bool b]⟩]) x → hidB m h (l1 ++ l :: l2) x := fun x hx => hid_sub (fun y hy => by
    rcases List.mem_append.1 hy with hy | hy
    · rcases List.mem_append.1 hy with hy | hy
      · exact List.mem_map_of_mem (by simp [hy])
      · exact List.mem_map_of_mem (by simp [hy])
    · rcases List.mem_singleton.1 hy with rfl
      exact List.mem_map.2 ⟨l, by simp, rfl⟩) hx
  have hml := R.1.hd
  have hmm : (lastW (setV (leaveW (w.alloc (.cells #[.string (bs t), .bool b] 124)) 2 (lstB h l1) (fstB l2 h)) l.x t b) 2 l.x h (lstB h (l1 ++ l2))).heap[m]? = some (.map es c) := by
    obtain ⟨y, hy, ey⟩ := lst_mem h zI (l1 ++ l2)
    have ml : m ≠ l.x := A.m_ne (List.mem_cons_of_mem _ (by simp))
    rw [setCell_other (A.m_ne (y := ⟨h, [], zI⟩) List.mem_cons_self), setCell_other (by rw [ey]; exact A.m_ne (mem_mid hy)), setCell_other ml, setCell_other ml]
    exact M5.trans hm
  have HR := Lib.hid (And.intro R hsub)
  have HM := Lib.hid (And.intro hml hmm)
  clear R hf hm ho hj hek hev A c1 c2 c3 c4 f3 f4 ck M1 M2 M3 M4 M5 M6 M7 hlen hvl hsub hml hmm
  go_enter Try.func109, Try.ntmps109
  go_wp2_with fail
  refine co.mono ?_
  rintro e w1 ⟨rfl, rfl⟩
  go_wp2_with fail
  refine cl.mono ?_
  rintro e w1 ⟨rfl, hA⟩
  have Z1 := (hA.cell ⟨l.x, 1, none⟩).trans X1
  have W1 := (hA.frozen ⟨l.x, 1, none⟩).trans Y1
  have Z2 := (hA.cell ⟨l.x, 2, none⟩).trans X2
  have W2 := (hA.frozen ⟨l.x, 2, none⟩).trans Y2
  have B1 := (hA.cell _).trans hbx.1
  have B2 := (hA.cell _).trans hbx.2
  clear hbx
  have HA := Lib.hid hA
  clear hA X4 X5 X1 Y1 X2 Y2
  go_wp2_with fail
  have hA2 := setV_alike l.x t b HA.out
  have N1 := (hA2.cell _).trans N1
  have N2 := (hA2.cell _).trans N2
  have N3 := (hA2.cell _).trans N3
  have N4 := (hA2.cell _).trans N4
  have K2 := (hA2.cell _).trans K2
  have N5 := (hA2.frozen _).trans N5
  have N6 := (hA2.frozen _).trans N6
  have N7 := (hA2.frozen _).trans N7
  have N8 := (hA2.frozen _).trans N8
  refine (last_any _ g l.x h (lstB h (l1 ++ l2)) _ _ _ K2 N1 N2 N3 N4 N5 N6 N7 N8 e1 e2 e3).mono ?_
  rintro e w2 ⟨rfl, hB⟩
  have hA3 := Alike.trans (lastW_alike (x := l.x) (h := h) (a := lstB h (l1 ++ l2)) hA2) hB
  clear N1 N2 N3 N4 K2 N5 N6 N7 N8 hA2 hB
  obtain ⟨Hd, Hm⟩ := HM.out
  have hd2 := (congrArg (·[g]?) hA3.1).trans Hd
  have hm2 := (congrArg (·[m]?) hA3.1).trans Hm
  obtain ⟨P0, P1, _⟩ := hd_cells (es := #[]) hd2
  have hln := run_len_map (P := Try.prog) w2.drew 9 146 m c es 148 3 Try.underlying148 hm2
  have HA3 := Lib.hid hA3
  clear hA3 Hd Hm hd2 hm2
  have hle : decide ((es.size : Int) ≤ most) = true := decide_eq_true hes
  go_wp2_with fail
  go_region
  go_wp2
  go_ret2
  obtain ⟨⟨R1, R2⟩, R3⟩ := HR.out
  have e := HA3.out.trans (Alike.drew _)
  exact ⟨rfl, m, h, _, R1.alike e, rfl, (R2.alloc0.alike e).held, fun x hx => .inl (R3 x hx)⟩
end
end Go.Proofs.Ytdicpbecdhaphaa.Av.LruK
