/- lru: Peek, Get, Len, Most at values that are numbers, walked. No conditions but that lengths are what memory holds. -/
import Derived.Test.YtdjdcpbakeahcaaLru9I
namespace Go.Proofs.Ytdjdcpbakeahcaa.Av.LruI
open Go Go.RowKit
set_option linter.unusedVariables false
set_option linter.unusedSimpArgs false
set_option maxRecDepth 100000

section
variable {w : World} {g m h : Nat} {l1 l2 ls : List Lk} {l : Lk} {most : Int}
set_option maxHeartbeats 2000000 in
theorem len_ok (A : LruI w g m h ls most) : Calls Try.prog 33 #[pnt g] w fun e w' => e = .returned (.int .i64 (ls.length : Int)) ∧ LruTurn tk tL zI w g m h ls w' most (itemsOf ls) := by
  obtain ⟨es, c, hm, ho⟩ := A.mp
  obtain ⟨g0, g1, g2, _⟩ := A.head
  have co := ok_any w g h g2
  have hln := run_len_map (P := Try.prog) w 9 93 m c es 92 3 Try.underlying92 hm
  have e1 : (es.size : Int) = ls.length := by
    have := ho.len
    simp only [Array.length_toList] at this
    rw [this]
  rw [e1] at hln
  have T := Lib.hid (LruTurn.refl A)
  clear hm ho A e1
  go_enter Try.func33, Try.ntmps33
  go_wp2_with fail
  refine co.mono ?_
  rintro e w1 ⟨rfl, rfl⟩
  go_wp2
  go_ret
  exact ⟨rfl, T.out⟩
set_option maxHeartbeats 2000000 in
theorem most_ok (A : LruI w g m h ls most) : Calls Try.prog 37 #[pnt g] w fun e w' => e = .returned (.int .i64 most) ∧ LruTurn tk tL zI w g m h ls w' most (itemsOf ls) := by
  obtain ⟨g0, g1, g2, _⟩ := A.head
  have co := ok_any w g h g2
  have T := Lib.hid (LruTurn.refl A)
  clear A
  go_enter Try.func37, Try.ntmps37
  go_wp2_with fail
  refine co.mono ?_
  rintro e w1 ⟨rfl, rfl⟩
  go_wp2
  go_ret
  exact ⟨rfl, T.out⟩
set_option maxHeartbeats 2000000 in
theorem peek_yes (A : LruI w g m h (l1 ++ l :: l2) most) (n : Int) (hlv : l.v = [.int .i64 n]) : Calls Try.prog 36 #[pnt g, .string (bs l.k)] w fun e w' => e = .returned (.tuple #[.int .i64 n, .bool true]) ∧ Only w (fun _ => False) w' := by
  obtain ⟨es, c, hm, ho⟩ := A.mp
  obtain ⟨g0, g1, g2, _⟩ := A.head
  obtain ⟨j, e, hj, hek, hev, hf⟩ := ho.find A.keys (l := l) (by simp)
  have hl := run_lookup_yes (P := Try.prog) w 92 9 93 m c j (bs l.k) (pnt l.x) es Try.underlying92 Try.underlying9 hm hf
  have co := ok_any w g h g2
  have hN : w.heap[l.x]? = some (.cells (lkV l.k [.int .i64 n] (pnt (lstB h l1)) (pnt (fstB l2 h))) tk (0, 0)) := by
    have := A.link
    rw [hlv] at this
    exact this
  have p1 : w.cell? ⟨l.x, 1, none⟩ = some (.int .i64 n) := cellAt hN (j := 1) (by show 1 < 4; omega)
  clear hm ho hj hek hev hf A hN hlv
  go_enter Try.func36, Try.ntmps36
  go_wp2_with fail
  refine co.mono ?_
  rintro e w1 ⟨rfl, rfl⟩
  go_wp2
  go_ret2
  exact ⟨rfl, Only.refl _ _⟩
end
end Go.Proofs.Ytdjdcpbakeahcaa.Av.LruI
