/- root: the law on a torn root, put together. No conditions but that numbers have their bits. -/
import Derived.Test.YtjfkfldlmhbnkaaRoot12
namespace Go.Proofs.Ytjfkfldlmhbnkaa.Av
open Go Go.RowKit
set_option linter.unusedVariables false
set_option linter.unusedSimpArgs false
set_option maxRecDepth 100000

theorem next_ok {g a : Nat} {z u s v : Int} (hg : g ≤ 1099511627776) (ha : a ≤ 1) : SP 34 [rt g a z u, Z s, .ex (.int .u32 v)] (rt ((g : Int) + 1) ((1 - a : Nat) : Int) s v) := by
  have hw : IntKind.u64.wrap ((g : Int) + 1) = (g : Int) + 1 := wrap_u64 (by omega) (by omega)
  by_cases h : a = 0
  · subst h
    have := next0 (g := g) (z := z) (u := u) (s := s) (v := v)
    rw [hw] at this
    exact this
  · have e : a = 1 := by omega
    subst e
    have := next1 (g := g) (a := 1) (z := z) (u := u) (s := s) (v := v) (by decide)
    rw [hw] at this
    exact this
theorem half_ok (v : Nat) (hv : v < 4294967296) : IntKind.u32.wrap ((v : Int).tdiv 2) = ((v / 2 : Nat) : Int) := by
  rw [Int.tdiv_eq_ediv_of_nonneg (by omega), wrap_u32 (by omega) (by omega)]; omega
theorem under_len {o : List UInt8} {g : Nat} (h : Under o g) : o.length = 64 := by
  rcases h with rfl | ⟨a, z, u, _, _, rfl⟩
  · simp
  · exact root_len
theorem tears_in (g a z u size v c : Nat) (was : Int) (h : OkR g a z) (hu : u < 4294967296) (h1 : OkR ((g + 1 : Nat) : Int) ((1 - a : Nat) : Int) size) (hv : v < 4294967296) (hc : c < 256) :
    SP 9 [rt g a z u, grown size was v, .ex (.int .u8 c)] (B true) := by
  have hn := h.nat
  have hn1 := h1.nat
  have hN := next_ok (g := g) (a := a) (z := z) (u := u) (s := size) (v := v) (by omega) (by omega)
  have hK0 := check_yes (u := u) h
  have hK1 := check_yes (u := v) h1
  have hS0 := rseal_ok h hu
  have hS1 := rseal_ok h1 hv
  have hL0 := slot_ok (g := g) (a := a) (z := z) (u := u) (by omega) (by omega)
  have hL1 := slot_ok (g := ((g + 1 : Nat) : Int)) (a := ((1 - a : Nat) : Int)) (z := size) (u := v) (by omega) (by omega)
  have e1 : ((g + 1 : Nat) : Int) = (g : Int) + 1 := by omega
  rw [e1] at hK1 hS1 hL1
  have hf := root_len (g := g + 1) (a := 1 - a) (z := size) (u := v)
  have hz : zeroL [AV.ex (.int .u8 0)] 64 = bytesA (List.replicate 64 0) := rfl
  have hz2 : (List.replicate 64 (0 : UInt8)).length = 64 := by simp
  have hk : c % 65 ≤ 64 := by omega
  have hbf : (bs (rootS (g + 1) (1 - a) size v)).size = 64 := by rw [bs_size]; exact hf
  have hWv := half_ok v hv
  by_cases hA : OkR ((g : Int) - 1) (1 - (a : Int)) was
  · obtain ⟨g2, a2, w2, x1, x2, x3⟩ := okR_nat hA
    have x1 : g2 = g - 1 := by omega
    have x2 : a2 = 1 - a := by omega
    subst x1 x2 x3
    have hA2 : OkR ((g - 1 : Nat) : Int) ((1 - a : Nat) : Int) (w2 : Int) := by
      rw [show ((g - 1 : Nat) : Int) = (g : Int) - 1 by omega, show ((1 - a : Nat) : Int) = 1 - (a : Int) by omega]; exact hA
    have hKa := check_yes (u := IntKind.u32.wrap ((v : Int).tdiv 2)) hA
    have hSa := rseal_ok (u := v / 2) hA2 (by omega)
    rw [show ((g - 1 : Nat) : Int) = (g : Int) - 1 by omega, show ((1 - a : Nat) : Int) = 1 - (a : Int) by omega, ← hWv] at hSa
    have hun : Under (rootS (g - 1) (1 - a) w2 (v / 2)) g := .inr ⟨_, _, _, hA2, by omega, rfl⟩
    have ho := under_len hun
    have hr := rawR_torn (c := c) hf ho
    have hra := rawR_room (c := c) hf ho
    have hbo : (bs (rootS (g - 1) (1 - a) w2 (v / 2))).size = 64 := by rw [bs_size]; exact ho
    have hp := pick_torn (k := c % 65) h hu h1 hv hk hun
    rcases Nat.mod_two_eq_zero_or_one g with hm | hm
    · rw [show (g : Int) % 2 = 0 by omega] at hL0
      rw [show ((g : Int) + 1) % 2 = 1 by omega] at hL1
      rcases hp with ⟨he, p1, p2⟩ | ⟨hne, p1, p2⟩
      · exact tears_1sf g a z u size w2 v ((1 - a : Nat) : Int) c _ _ _ _ _ (by omega) (by omega) (by omega) (by omega) (by omega) hc hz hz2 hbf hbo hr hra he hN hK0 hK1 hKa hSa hS0 hS1 hL0 hL1 p2
      · exact tears_1sn g a z u size w2 v ((1 - a : Nat) : Int) c _ _ _ _ _ (by omega) (by omega) (by omega) (by omega) (by omega) hc hz hz2 hbf hbo hr hra hne hN hK0 hK1 hKa hSa hS0 hS1 hL0 hL1 p2
    · rw [show (g : Int) % 2 = 1 by omega] at hL0
      rw [show ((g : Int) + 1) % 2 = 0 by omega] at hL1
      rcases hp with ⟨he, p1, p2⟩ | ⟨hne, p1, p2⟩
      · exact tears_0sf g a z u size w2 v ((1 - a : Nat) : Int) c _ _ _ _ _ (by omega) (by omega) (by omega) (by omega) (by omega) hc hz hz2 hbf hbo hr hra he hN hK0 hK1 hKa hSa hS0 hS1 hL0 hL1 p1
      · exact tears_0sn g a z u size w2 v ((1 - a : Nat) : Int) c _ _ _ _ _ (by omega) (by omega) (by omega) (by omega) (by omega) hc hz hz2 hbf hbo hr hra hne hN hK0 hK1 hKa hSa hS0 hS1 hL0 hL1 p1
  · have hKa := check_no (u := IntKind.u32.wrap ((v : Int).tdiv 2)) hA
    have hun : Under (List.replicate 64 0) g := .inl rfl
    have ho := under_len hun
    have hr := rawR_torn (c := c) hf ho
    have hra := rawR_room (c := c) hf ho
    have hbo : (bs (List.replicate 64 (0 : UInt8))).size = 64 := by rw [bs_size]; exact ho
    have hp := pick_torn (k := c % 65) h hu h1 hv hk hun
    rcases Nat.mod_two_eq_zero_or_one g with hm | hm
    · rw [show (g : Int) % 2 = 0 by omega] at hL0
      rw [show ((g : Int) + 1) % 2 = 1 by omega] at hL1
      rcases hp with ⟨he, p1, p2⟩ | ⟨hne, p1, p2⟩
      · exact tears_1zf g a z u size was v ((1 - a : Nat) : Int) c _ _ _ _ (by omega) (by omega) (by omega) (by omega) (by omega) hc hz hz2 hbf hbo hr hra he hN hK0 hK1 hKa hS0 hS1 hL0 hL1 p2
      · exact tears_1zn g a z u size was v ((1 - a : Nat) : Int) c _ _ _ _ (by omega) (by omega) (by omega) (by omega) (by omega) hc hz hz2 hbf hbo hr hra hne hN hK0 hK1 hKa hS0 hS1 hL0 hL1 p2
    · rw [show (g : Int) % 2 = 1 by omega] at hL0
      rw [show ((g : Int) + 1) % 2 = 0 by omega] at hL1
      rcases hp with ⟨he, p1, p2⟩ | ⟨hne, p1, p2⟩
      · exact tears_0zf g a z u size was v ((1 - a : Nat) : Int) c _ _ _ _ (by omega) (by omega) (by omega) (by omega) (by omega) hc hz hz2 hbf hbo hr hra he hN hK0 hK1 hKa hS0 hS1 hL0 hL1 p1
      · exact tears_0zn g a z u size was v ((1 - a : Nat) : Int) c _ _ _ _ (by omega) (by omega) (by omega) (by omega) (by omega) hc hz hz2 hbf hbo hr hra hne hN hK0 hK1 hKa hS0 hS1 hL0 hL1 p1
theorem tears_all (g a z u size was v : Int) (c : Nat) (h0 : 0 ≤ g) (h0' : g < 18446744073709551616) (h2 : 0 ≤ u) (h3 : u < 4294967296) (h4 : 0 ≤ v) (h5 : v < 4294967296) (hc : c < 256) :
    SP 9 [rt g a z u, grown size was v, .ex (.int .u8 c)] (B true) := by
  by_cases h : OkR g a z
  · obtain ⟨g, a, z, rfl, rfl, rfl⟩ := okR_nat h
    have hu : u = (u.toNat : Int) := by omega
    generalize u.toNat = u' at hu
    subst hu
    have hv : v = (v.toNat : Int) := by omega
    generalize v.toNat = v' at hv
    subst hv
    have hn := h.nat
    have hN := next_ok (g := g) (a := a) (z := z) (u := u') (s := size) (v := v') (by omega) (by omega)
    by_cases h1 : OkR ((g : Int) + 1) ((1 - a : Nat) : Int) size
    · obtain ⟨g2, a2, s2, x1, x2, x3⟩ := okR_nat h1
      subst x3
      exact tears_in g a z u' s2 v' c was h (by omega) (by rw [show ((g + 1 : Nat) : Int) = (g : Int) + 1 by omega]; exact h1) (by omega) hc
    · exact tears_out _ _ _ _ _ _ _ _ _ _ 0 2 (.inr (by decide)) hN (check_yes h) (check_no h1)
  · obtain ⟨n1, n2, k1, _⟩ := next_both g a z u size v
    by_cases h1 : OkR n1 n2 size
    · exact tears_out _ _ _ _ _ _ _ _ _ _ 2 0 (.inl (by decide)) k1 (check_no h) (check_yes h1)
    · exact tears_out _ _ _ _ _ _ _ _ _ _ 2 2 (.inl (by decide)) k1 (check_no h) (check_no h1)
theorem cells_grown {cs : Array Value} (h : CellsOk [.int .i64, .int .i64, .int .u32] cs.toList) : ∃ a b c : Int, 0 ≤ c ∧ c < 4294967296 ∧ cs = #[.int .i64 a, .int .i64 b, .int .u32 c] := by
  obtain ⟨v0, r0, e0, ⟨k0, rfl, hk0⟩, hr0⟩ := h.cons_
  obtain ⟨v1, r1, e1, ⟨k1, rfl, hk1⟩, hr1⟩ := hr0.cons_
  obtain ⟨v2, r2, e2, ⟨k2, rfl, hk2⟩, hr2⟩ := hr1.cons_
  have e3 := hr2.empty_
  subst e3 e2 e1
  have b0 := bounds_u32 hk2
  refine ⟨k0, k1, k2, by omega, by omega, ?_⟩
  apply Array.ext'
  rw [e0]
theorem rootTears_walk (a b : Array Value) (c : UInt8) (w : World) (ha : CellsOk [.int .u64, .int .i64, .int .i64, .int .u32] a.toList) (hb : CellsOk [.int .i64, .int .i64, .int .u32] b.toList) :
    Calls Try.prog 9 #[.agg a, .agg b, .int .u8 (c.toNat : Int)] w fun e w' => e = .returned (.bool true) ∧ Below w.heap.size w w' := by
  obtain ⟨g, a, z, u, h0, h1, h2, h3, rfl⟩ := cells_root ha
  obtain ⟨s, ws, v, h4, h5, rfl⟩ := cells_grown hb
  refine calls_at (avs := [rt g a z u, grown s ws v, .ex (.int .u8 c.toNat)]) (tears_all g a z u s ws v c.toNat h0 h1 h2 h3 h4 h5 c.toNat_lt) w (fun _ _ => False) (fun _ _ h => h.elim) _ rfl fun j hj => ?_
  match j, hj with
  | 0, _ => exact .ex _ _
  | 1, _ => exact .ex _ _
  | 2, _ => exact .ex _ _
end Go.Proofs.Ytjfkfldlmhbnkaa.Av
