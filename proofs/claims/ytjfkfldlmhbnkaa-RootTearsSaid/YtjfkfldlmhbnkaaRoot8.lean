/- root: the laws on sealing and opening hold of all roots and texts. No conditions but that numbers have their bits. -/
import Derived.Test.YtjfkfldlmhbnkaaRoot7
import Derived.Test.YtjfkfldlmhbnkaaOpen2
namespace Go.Proofs.Ytjfkfldlmhbnkaa.Av
open Go Go.RowKit
set_option linter.unusedVariables false
set_option linter.unusedSimpArgs false
set_option maxRecDepth 100000

theorem okR_nat {g a z : Int} (h : OkR g a z) : ∃ g' a' z' : Nat, g = g' ∧ a = a' ∧ z = z' := by
  have h : 1 ≤ g ∧ g ≤ 1099511627776 ∧ (a = 0 ∨ a = 1) ∧ 0 ≤ z ∧ z ≤ 24576 := h
  exact ⟨g.toNat, a.toNat, z.toNat, by omega, by omega, by omega⟩
theorem next_both (g a z u s v : Int) : ∃ n1 n2 : Int, SP 34 [rt g a z u, Z s, .ex (.int .u32 v)] (rt n1 n2 s v) ∧ SP 35 [rt g a z u, Z s, .ex (.int .u32 v)] (rt n1 n2 s v) := by
  by_cases ha : a = 0
  · subst ha; exact ⟨_, _, next0, rnext0⟩
  · exact ⟨_, _, next1 ha, rnext1 ha⟩
theorem seals_all (g a z u s v : Int) (h0 : 0 ≤ g) (h1 : g < 18446744073709551616) (h2 : 0 ≤ u) (h3 : u < 4294967296) : SP 7 [rt g a z u, Z s, .ex (.int .u32 v)] (B true) := by
  obtain ⟨n1, n2, k1, k2⟩ := next_both g a z u s v
  by_cases h : OkR g a z
  · obtain ⟨g', a', z', rfl, rfl, rfl⟩ := okR_nat h
    have hu : u = (u.toNat : Int) := by omega
    generalize u.toNat = u' at hu
    subst hu
    exact seals_walk _ _ _ _ s v n1 n2 0 true _ h0 h1 (.inl ⟨rfl, rfl⟩) (rseal_ok h (by omega)) (rrseal_ok h (by omega)) (check_yes h) (may_yes h) k1 k2 (slot_ok h0 h1)
  · exact seals_walk _ _ _ _ s v n1 n2 2 false [] h0 h1 (.inr ⟨rfl, rfl⟩) (rseal_no h) (rrseal_no h) (check_no h) (may_no h) k1 k2 (slot_ok h0 h1)
theorem open_any16 (s : List UInt8) : ∃ g a z u e : Int, SP 38 [T s] (.tup [rt g a z u, Z e]) ∧ SP 39 [T s] (.tup [rt g a z u, Z e]) ∧ (e = 0 → 1 ≤ g) := by
  rcases root_cases s with ⟨g, a, z, u, h1, h2, rfl⟩ | h
  · exact ⟨g, a, z, u, 0, rootopen_yes h1 h2, rrootopen_yes h1 h2, fun _ => h1.1⟩
  · exact ⟨0, 0, 0, 0, erR s, rootopen_no h, rrootopen_no h, fun hh => absurd hh (er_ne s)⟩
theorem opens_all (a b : List UInt8) : SP 8 [T a, T b] (B true) := by
  by_cases hl : 200 < (bs a).size ∨ 200 < (bs b).size
  · exact opens_over a b hl
  have l1 : ¬ 200 < (bs a).size := fun h => hl (.inl h)
  have l2 : ¬ 200 < (bs b).size := fun h => hl (.inr h)
  obtain ⟨g0, a0, z0, u0, e0, p0, q0, c0⟩ := open_any16 a
  obtain ⟨g1, a1, z1, u1, e1, p1, q1, c1⟩ := open_any16 b
  by_cases d0 : e0 = 0
  · by_cases d1 : e1 = 0
    · by_cases hlt : g0 < g1
      · exact opens_walk a b _ _ _ _ _ _ _ _ _ _ _ l1 l2 p0 q0 (pick_gt a b _ _ _ _ _ _ _ _ _ _ d0 d1 (c0 d0) hlt p0 p1) (rpick_gt a b _ _ _ _ _ _ _ _ _ _ d0 d1 (c0 d0) hlt q0 q1)
      · exact opens_walk a b _ _ _ _ _ _ _ _ _ _ _ l1 l2 p0 q0 (pick_le a b _ _ _ _ _ _ _ _ _ _ d0 d1 (c0 d0) (by omega) p0 p1) (rpick_le a b _ _ _ _ _ _ _ _ _ _ d0 d1 (c0 d0) (by omega) q0 q1)
    · exact opens_walk a b _ _ _ _ _ _ _ _ _ _ _ l1 l2 p0 q0 (pick_yn a b _ _ _ _ _ _ _ _ _ _ d0 d1 (c0 d0) p0 p1) (rpick_yn a b _ _ _ _ _ _ _ _ _ _ d0 d1 (c0 d0) q0 q1)
  · by_cases d1 : e1 = 0
    · exact opens_walk a b _ _ _ _ _ _ _ _ _ _ _ l1 l2 p0 q0 (pick_ny a b _ _ _ _ _ _ _ _ _ _ d0 d1 (c1 d1) p0 p1) (rpick_ny a b _ _ _ _ _ _ _ _ _ _ d0 d1 (c1 d1) q0 q1)
    · exact opens_walk a b _ _ _ _ _ _ _ _ _ _ _ l1 l2 p0 q0 (pick_nn a b _ _ _ _ _ _ _ _ _ _ d0 d1 p0 p1) (rpick_nn a b _ _ _ _ _ _ _ _ _ _ d0 d1 q0 q1)
theorem cells_root {cs : Array Value} (h : CellsOk [.int .u64, .int .i64, .int .i64, .int .u32] cs.toList) : ∃ g a z u : Int, 0 ≤ g ∧ g < 18446744073709551616 ∧ 0 ≤ u ∧ u < 4294967296 ∧ cs = #[.int .u64 g, .int .i64 a, .int .i64 z, .int .u32 u] := by
  obtain ⟨v0, r0, e0, ⟨k0, rfl, hk0⟩, hr0⟩ := h.cons_
  obtain ⟨v1, r1, e1, ⟨k1, rfl, hk1⟩, hr1⟩ := hr0.cons_
  obtain ⟨v2, r2, e2, ⟨k2, rfl, hk2⟩, hr2⟩ := hr1.cons_
  obtain ⟨v3, r3, e3, ⟨k3, rfl, hk3⟩, hr3⟩ := hr2.cons_
  have e4 := hr3.empty_
  subst e4 e3 e2 e1
  have b0 := bounds_u64 hk0
  have b1 := bounds_u32 hk3
  refine ⟨k0, k1, k2, k3, by omega, by omega, by omega, by omega, ?_⟩
  apply Array.ext'
  rw [e0]
theorem rootSeals_walk (a : Array Value) (s : Int) (x : BitVec 32) (w : World) (ha : CellsOk [.int .u64, .int .i64, .int .i64, .int .u32] a.toList) (hs0 : -9223372036854775808 ≤ s) (hs1 : s ≤ 9223372036854775807) :
    Calls Try.prog 7 #[.agg a, .int .i64 s, .int .u32 (x.toNat : Int)] w fun e w' => e = .returned (.bool true) ∧ Below w.heap.size w w' := by
  obtain ⟨g, a, z, u, h0, h1, h2, h3, rfl⟩ := cells_root ha
  refine calls_at (avs := [rt g a z u, Z s, .ex (.int .u32 x.toNat)]) (seals_all g a z u s x.toNat h0 h1 h2 h3) w (fun _ _ => False) (fun _ _ h => h.elim) _ rfl fun j hj => ?_
  match j, hj with
  | 0, _ => exact .ex _ _
  | 1, _ => exact .ex _ _
  | 2, _ => exact .ex _ _
theorem rootOpens_walk (a b : List UInt8) (w : World) (ha : a.length ≤ 9223372036854775807) (hb : b.length ≤ 9223372036854775807) :
    Calls Try.prog 8 #[.string (bs a), .string (bs b)] w fun e w' => e = .returned (.bool true) ∧ Below w.heap.size w w' := by
  refine calls_at (avs := [T a, T b]) (opens_all a b) w (fun _ _ => False) (fun _ _ h => h.elim) _ rfl fun j hj => ?_
  match j, hj with
  | 0, _ => exact .ex _ _
  | 1, _ => exact .ex _ _
end Go.Proofs.Ytjfkfldlmhbnkaa.Av
