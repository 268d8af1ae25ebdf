/- lru: Peek, Get, Len, Most at values of a cache, walked. No conditions but that lengths are what memory holds. -/
import Derived.Test.YtdicpbecdhaphaaLru9K
namespace Go.Proofs.Ytdicpbecdhaphaa.Av.LruK
open Go Go.RowKit
set_option linter.unusedVariables false
set_option linter.unusedSimpArgs false
set_option maxRecDepth 100000

section
variable {w : World} {g m h : Nat} {l1 l2 ls : List Lk} {l : Lk} {most : Int}
theorem info_known : (Try.prog.info? 124).map (·.size) = some 2 := rfl
theorem results_row_tmp {P : Program} {fn : Func} {q p : Tmp} {ty : TypeId} (h : fn.results = #[.cell p ty, .tmp q]) (tmps : Array Value) (w : World) (g : Nat) (t : TypeId) (cs : Array Value) (d : TypeDesc)
    (hp : tmps.getD p undef = .pointer (some ⟨g, 0, none⟩)) (hg : w.heap[g]? = some (.cells cs t (0, 0))) (hu : P.underlying ty = some d) (hd : (match d with | .struct _ | .array _ _ => true | _ => false) = true) (hi : (P.info? ty).map (·.size) = some cs.size) :
    (results fn tmps).run P w = .ok (.tuple #[.agg cs, tmps.getD q undef]) w := by
  have hp' : tmps[p]?.getD undef = .pointer (some ⟨g, 0, none⟩) := by simpa using hp
  simp [results, h, hp', asAddr, run_loadVar_row w g t ty cs (0, 0) d hg hu hd hi]
set_option maxHeartbeats 2000000 in
theorem len_ok (A : LruI w g m h ls most) : Calls Try.prog 88 #[pnt g] w fun e w' => e = .returned (.int .i64 (ls.length : Int)) ∧ LruTurn tk tL zI w g m h ls w' most (itemsOf ls) := by
  obtain ⟨es, c, hm, ho⟩ := A.mp
  obtain ⟨g0, g1, g2, _⟩ := A.head
  have co := ok_any w g h g2
  have hln := run_len_map (P := Try.prog) w 9 146 m c es 148 3 Try.underlying148 hm
  have e1 : (es.size : Int) = ls.length := by
    have := ho.len
    simp only [Array.length_toList] at this
    rw [this]
  rw [e1] at hln
  have T := Lib.hid (LruTurn.refl A)
  clear hm ho A e1
  go_enter Try.func88, Try.ntmps88
  go_wp2_with fail
  refine co.mono ?_
  rintro e w1 ⟨rfl, rfl⟩
  go_wp2
  go_ret
  exact ⟨rfl, T.out⟩
set_option maxHeartbeats 2000000 in
theorem most_ok (A : LruI w g m h ls most) : Calls Try.prog 104 #[pnt g] w fun e w' => e = .returned (.int .i64 most) ∧ LruTurn tk tL zI w g m h ls w' most (itemsOf ls) := by
  obtain ⟨g0, g1, g2, _⟩ := A.head
  have co := ok_any w g h g2
  have T := Lib.hid (LruTurn.refl A)
  clear A
  go_enter Try.func104, Try.ntmps104
  go_wp2_with fail
  refine co.mono ?_
  rintro e w1 ⟨rfl, rfl⟩
  go_wp2
  go_ret
  exact ⟨rfl, T.out⟩
set_option maxHeartbeats 2000000 in
theorem peek_yes (A : LruI w g m h (l1 ++ l :: l2) most) (t : List UInt8) (b : Bool) (hlv : l.v = [.string (bs t), .bool b]) : Calls Try.prog 110 #[pnt g, .string (bs l.k)] w fun e w' => e = .returned (.tuple #[.agg #[.string (bs t), .bool b], .bool true]) ∧ Only w (fun _ => False) w' := by
  have A := (A.alloc (.cells #[.string (bs []), .bool false] 124)).alloc (.cells #[.string (bs []), .bool false] 124)
  obtain ⟨es, c, hm, ho⟩ := A.mp
  obtain ⟨g0, g1, g2, _⟩ := A.head
  obtain ⟨j, e, hj, hek, hev, hf⟩ := ho.find A.keys (l := l) (by simp)
  have hl := run_lookup_yes (P := Try.prog) ((w.alloc (.cells #[.string (bs []), .bool false] 124)).alloc (.cells #[.string (bs []), .bool false] 124)) 148 9 146 m c j (bs l.k) (pnt l.x) es Try.underlying148 Try.underlying9 hm hf
  have co := ok_any ((w.alloc (.cells #[.string (bs []), .bool false] 124)).alloc (.cells #[.string (bs []), .bool false] 124)) g h g2
  have hN : ((w.alloc (.cells #[.string (bs []), .bool false] 124)).alloc (.cells #[.string (bs []), .bool false] 124)).heap[l.x]? = some (.cells (lkV l.k [.string (bs t), .bool b] (pnt (lstB h l1)) (pnt (fstB l2 h))) tk (0, 0)) := by
    have := A.link
    rw [hlv] at this
    exact this
  have p1 : ((w.alloc (.cells #[.string (bs []), .bool false] 124)).alloc (.cells #[.string (bs []), .bool false] 124)).cell? ⟨l.x, 1, none⟩ = some (.string (bs t)) := cellAt hN (j := 1) (by show 1 < 5; omega)
  have p2 : ((w.alloc (.cells #[.string (bs []), .bool false] 124)).alloc (.cells #[.string (bs []), .bool false] 124)).cell? ⟨l.x, 2, none⟩ = some (.bool b) := cellAt hN (j := 2) (by show 2 < 5; omega)
  clear hm ho hj hek hev hf A hN hlv
  go_enter Try.func110, Try.ntmps110
  go_wp2_with fail
  refine co.mono ?_
  rintro e w1 ⟨rfl, rfl⟩
  go_wp2_with fail
  exact bodyPost_ret (results_row_tmp rfl _ _ w.heap.size 124 _ _ rfl ((heap_alloc _ _ (by rw [size_alloc]; omega)).trans (heap_alloc_at _ _)) Try.underlying124 rfl info_known) rfl ⟨rfl, ((Only.alloc1 _ _).trans (Only.alloc1 _ _) fun _ _ h => h)⟩
end
end Go.Proofs.Ytdicpbecdhaphaa.Av.LruK
