/- lru: Peek of a key that is not there, Get, at values that are numbers, walked. No conditions but that lengths are what memory holds. -/
import Derived.Test.YtdjdcpbakeahcaaLruAI
namespace Go.Proofs.Ytdjdcpbakeahcaa.Av.LruI
open Go Go.RowKit
set_option linter.unusedVariables false
set_option linter.unusedSimpArgs false
set_option maxRecDepth 100000

section
variable {w : World} {g m h : Nat} {l1 l2 ls : List Lk} {l : Lk} {most : Int}
set_option maxHeartbeats 2000000 in
theorem peek_no (A : LruI w g m h ls most) {k : List UInt8} (hk : ∀ y ∈ ls, y.k ≠ k) : Calls Try.prog 36 #[pnt g, .string (bs k)] w fun e w' => e = .returned (.tuple #[.int .i64 0, .bool false]) ∧ Only w (fun _ => False) w' := by
  obtain ⟨es, c, hm, ho⟩ := A.mp
  obtain ⟨g0, g1, g2, _⟩ := A.head
  have hl := run_lookup_no (P := Try.prog) w 92 9 93 m c (bs k) es Try.underlying92 Try.underlying9 (zero_ptr _) hm (ho.none hk)
  have co := ok_any w g h g2
  clear hm ho A hk
  go_enter Try.func36, Try.ntmps36
  go_wp2_with fail
  refine co.mono ?_
  rintro e w1 ⟨rfl, rfl⟩
  go_wp2
  go_ret2
  exact ⟨rfl, Only.refl _ _⟩
set_option maxHeartbeats 2000000 in
theorem get_no (A : LruI w g m h ls most) {k : List UInt8} (hk : ∀ y ∈ ls, y.k ≠ k) : Calls Try.prog 39 #[pnt g, .string (bs k)] w fun e w' => e = .returned (.tuple #[.int .i64 0, .bool false]) ∧ Only w (fun _ => False) w' := by
  have cp := peek_no A hk
  clear A hk
  go_enter Try.func39, Try.ntmps39
  go_wp2_with fail
  refine cp.mono ?_
  rintro e w1 ⟨rfl, hO⟩
  go_wp2
  go_ret2
  exact ⟨rfl, hO⟩
theorem only_up {u : World} {S S' : Nat → Prop} (h : Only u S w) (hs : ∀ x, S x → S' x) : Only u S' w :=
  ⟨h.os, h.tape, h.output, h.size, fun k hk hn => h.block k hk fun e => hn (hs k e)⟩
set_option maxHeartbeats 2000000 in
theorem get_yes (A : LruI w g m h (l1 ++ l :: l2) most) (n : Int) (hlv : l.v = [.int .i64 n]) : Calls Try.prog 39 #[pnt g, .string (bs l.k)] w fun e w' => e = .returned (.tuple #[.int .i64 n, .bool true]) ∧ LruTurn tk tL zI w g m h (l1 ++ l :: l2) w' most (itemsOf (l1 ++ l2 ++ [l])) := by
  have cp := peek_yes A n hlv
  have HA := Lib.hid A
  clear A
  go_enter Try.func39, Try.ntmps39
  go_wp2_with fail
  refine cp.mono ?_
  rintro e w1 ⟨rfl, hO⟩
  have A := HA.out.only hO
  obtain ⟨es, c, hm, ho⟩ := A.mp
  obtain ⟨g0, g1, g2, _⟩ := A.head
  obtain ⟨j, e, hj, hek, hev, hf⟩ := ho.find A.keys (l := l) (by simp)
  have hl := run_lookup_one (P := Try.prog) w1 92 9 93 m c j (bs l.k) (pnt l.x) es Try.underlying92 Try.underlying9 hm hf
  obtain ⟨c1, c2, ⟨u1, c3⟩, ⟨u2, c4⟩, f3, f4, ck⟩ := leave_cells A
  have cl := leave_any w1 l.x (lstB h l1) (fstB l2 h) u1 u2 c1 c2 c3 c4 f3 f4
  have R := A.move (v' := l.v) (A.vals l (by simp)) (F := id) (fun _ _ _ h => h) (fun _ _ _ => rfl) (fun _ _ h _ => h)
  obtain ⟨M1, M2, M3, M4, M5, M6, M7⟩ := A.mid (v' := l.v) (F := id) (fun _ _ _ h => h) (fun _ _ _ => rfl)
  obtain ⟨N1, ⟨v1, N2⟩, ⟨v2, N3⟩, ⟨v3, N4⟩, N5, N6, N7, N8⟩ := last_cells M1 M3 (by rw [hlv]; rfl) (fun y hy => A.vals y (by
    rcases List.mem_append.1 hy with hy | hy
    · simp [hy]
    · simp [hy]))
  have e1 : h ≠ l.x := M7 ⟨h, [], zI⟩ List.mem_cons_self
  have e2 : lstB h (l1 ++ l2) ≠ l.x := by
    obtain ⟨y, hy, ey⟩ := lst_mem h zI (l1 ++ l2)
    rw [ey]; exact M7 y hy
  have e3 : g ≠ l.x := A.g1.2 l (by simp)
  obtain ⟨_, _, K2⟩ := hd_cells (es := #[]) (M4.trans A.hd)
  have hsub : ∀ x, hidB m h (l1 ++ l2 ++ [⟨l.x, l.k, l.v⟩]) x → hidB m h (l1 ++ l :: l2) x := fun x hx => hid_sub (fun y hy => by
    rcases List.mem_append.1 hy with hy | hy
    · rcases List.mem_append.1 hy with hy | hy
      · exact List.mem_map_of_mem (by simp [hy])
      · exact List.mem_map_of_mem (by simp [hy])
    · rcases List.mem_singleton.1 hy with rfl
      exact List.mem_map.2 ⟨l, by simp, rfl⟩) hx
  have HR := Lib.hid (And.intro R hsub)
  have HO := Lib.hid (And.intro hO trivial)
  clear R hf hm ho hj hek hev A c1 c2 c3 c4 f3 f4 ck M1 M2 M3 M4 M5 M6 M7 hsub hlv hO
  go_wp2_with fail
  refine cl.mono ?_
  rintro e w2 ⟨rfl, hA⟩
  have N1 := (hA.cell _).trans N1
  have N2 := (hA.cell _).trans N2
  have N3 := (hA.cell _).trans N3
  have N4 := (hA.cell _).trans N4
  have K2 := (hA.cell _).trans K2
  have N5 := (hA.frozen _).trans N5
  have N6 := (hA.frozen _).trans N6
  have N7 := (hA.frozen _).trans N7
  have N8 := (hA.frozen _).trans N8
  have HA2 := Lib.hid hA
  clear hA
  go_wp2_with fail
  refine (last_any _ g l.x h (lstB h (l1 ++ l2)) _ _ _ K2 N1 N2 N3 N4 N5 N6 N7 N8 e1 e2 e3).mono ?_
  rintro e w3 ⟨rfl, hB⟩
  go_wp2_with fail
  go_ret2
  obtain ⟨⟨R1, R2⟩, R3⟩ := HR.out
  have e := (lastW_alike (x := l.x) (h := h) (a := lstB h (l1 ++ l2)) HA2.out).trans hB
  exact ⟨rfl, m, h, _, R1.alike e, rfl, ((only_up HO.out.1 fun _ h => h.elim).trans (R2.alike e) fun _ _ h => h).held, fun x hx => .inl (R3 x hx)⟩
end
end Go.Proofs.Ytdjdcpbakeahcaa.Av.LruI
