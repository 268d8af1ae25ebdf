/- stamp: the law that all comes back holds of all numbers and texts. No conditions but that numbers have 64 bits. -/
import Derived.Test.YtjfkfldlmhbnkaaStamp13
import Derived.Test.YtjfkfldlmhbnkaaStamp12
import Derived.Test.YtjfkfldlmhbnkaaStamp9
namespace Go.Proofs.Ytjfkfldlmhbnkaa.Av
open Go Go.RowKit
set_option linter.unusedVariables false
set_option linter.unusedSimpArgs false
set_option maxRecDepth 100000

theorem bs_get (l : List UInt8) (j : Nat) : (bs l)[j]? = l[j]? := by
  by_cases h : j < l.length
  · rw [getElem?_pos (bs l) j (by rw [bs_size]; exact h), getElem?_pos l j h]
    rfl
  · rw [getElem?_neg (bs l) j (by rw [bs_size]; exact h), getElem?_neg l j h]
def mk2 (g : Nat) (p : Int) : Nat := g * 1048576 + p.toNat + 1
theorem mark_mk {g : Nat} {p : Int} (h : OkM g p) : SP 15 [U g, Z p] (.tup [U (mk2 g p), Z 0]) := by
  have := mark_yes h
  have h : 1 ≤ g ∧ g ≤ 1099511627776 ∧ 0 ≤ p ∧ p < 1048575 := h
  have e : ((g : Int) * 1048576 + p + 1) = ((mk2 g p : Nat) : Int) := by unfold mk2; omega
  rw [e] at this
  exact this
theorem mark_e (g : Nat) (p : Int) : ∃ (a : Nat) (e : Int), (e = 0 ↔ OkM g p) ∧ (OkM g p → a = mk2 g p) ∧ SP 15 [U g, Z p] (.tup [U a, Z e]) := by
  by_cases h : OkM g p
  · exact ⟨mk2 g p, 0, ⟨fun _ => h, fun _ => rfl⟩, fun _ => rfl, mark_mk h⟩
  · exact ⟨0, 2, ⟨fun e => absurd e (by decide), fun e => absurd e h⟩, fun e => absurd e h, mark_no h⟩
theorem parts_mk {g : Nat} {p : Int} (h : OkM g p) : SP 17 [U (mk2 g p)] (.tup [U g, Z p, B true]) := by
  have h : 1 ≤ g ∧ g ≤ 1099511627776 ∧ 0 ≤ p ∧ p < 1048575 := h
  have hp : OkP (mk2 g p) := by unfold OkP mk2; omega
  have := parts_yes hp
  rw [show ((mk2 g p : Nat) : Int) / 1048576 = (g : Int) by unfold mk2; omega, show ((mk2 g p : Nat) : Int) % 1048576 - 1 = p by unfold mk2; omega] at this
  exact this
/-- a payload with bytes of 0 behind -/
def padR (q : List UInt8) : List UInt8 := q ++ List.replicate (48 - q.length) 0
theorem sec_opn {m : Nat} {q : List UInt8} (hm : m ≠ 0) (hm2 : m < 18446744073709551616) (hq : q.length ≤ 48) : opn (sec m q) = (m, padR q, 0) := by
  have hl := sec_len m q hq
  have h1 := hd_sec q hm2
  have h2 := tl_sec q hm2 hq
  unfold opn
  rw [if_neg (by omega), if_neg (by omega), if_neg (by omega), h1]
  have e : ((sec m q).drop 8).take 48 = padR q := by
    simp only [sec, List.append_assoc]
    rw [List.drop_left' (Quill.numB_length 8 m), ← List.append_assoc, List.take_left' (by simp; omega)]
    rfl
  rw [e]
theorem pc_len (t : List UInt8) (i : Nat) : (pc t i).length ≤ 48 := by unfold pc; rw [List.length_take]; omega
theorem pad_len {q : List UInt8} (h : q.length ≤ 48) : (padR q).length = 48 := by simp [padR]; omega
theorem flat_pcs (t : List UInt8) : ∀ k, ((List.range k).map (pc t)).flatten = t.take (48 * k)
  | 0 => by simp
  | k + 1 => by
    rw [List.range_succ, List.map_append, List.flatten_append, flat_pcs t k, List.map_singleton, List.flatten_singleton, pc]
    rw [show 48 * (k + 1) = 48 * k + 48 by omega, List.take_add]
theorem back_all (g0 g1 : Nat) (p0 p1 : Int) (t : List UInt8) (h0 : g0 < 18446744073709551616) (h1 : g1 < 18446744073709551616) :
    SP 6 [mks g0 g1, ints p0 p1, T t] (B true) := by
  by_cases ht : 300 < (bs t).size
  · exact back_over g0 g1 p0 p1 t ht
  have hl : t.length ≤ 300 := by rw [bs_size] at ht; omega
  obtain ⟨a, e, ea, eb, hA⟩ := mark_e g0 p0
  obtain ⟨b, f, fa, fb, hB⟩ := mark_e g1 p1
  have hk : npc t ≤ 7 := by unfold npc; omega
  have hC := cut_yes t 7 (by omega) (by omega)
  have hN := count_ok ((bs t).size : Int) (by omega)
  rw [show cntP ((bs t).size : Int) = (npc t : Int) by rw [bs_size]; exact cnt_npc t] at hN
  have hcs : ∀ i : Nat, i < npc t → (pcs t (npc t))[i]? = some (T (pc t i)) := fun i hi => by simp [pcs, hi]
  have hq : ∀ i, i < npc t → (bs (pc t i)).size ≤ 48 := fun i _ => by rw [bs_size]; exact pc_len t i
  have hr : ∀ i, i < npc t → (bs (padR (pc t i))).size = 48 := fun i _ => by rw [bs_size]; exact pad_len (pc_len t i)
  have hpre : ∀ i, i < npc t → (((bs (padR (pc t i))).extract (0 : Int).toNat ((bs (pc t i)).size : Int).toNat).toList == (bs (pc t i)).toList) = true := fun i _ => by
    rw [bs_cut, bsl_, bsl_, bs_size]
    simp [padR]
  have hzero : ∀ i j, i < npc t → (bs (pc t i)).size ≤ j → j < 48 → (bs (padR (pc t i)))[j]? = some 0 := fun i j _ h1 h2 => by
    rw [bs_size] at h1
    have : (padR (pc t i))[j]? = some 0 := by
      have := pc_len t i
      rw [padR, List.getElem?_append_right h1, List.getElem?_replicate, if_pos (by omega)]
    rw [← this]
    exact bs_get _ _
  have hS : ∀ i : Nat, i < npc t → SP 28 [.ex (.int .u64 ((i : Int) + 1)), T (pc t i)] (.tup [T (sec (i + 1) (pc t i)), Z 0]) := fun i hi =>
    seal_yes (i + 1) (pc t i) (by omega) (by omega) (pc_len t i)
  have hO : ∀ i : Nat, i < npc t → SP 29 [T (sec (i + 1) (pc t i))] (.tup [.ex (.int .u64 ((i : Int) + 1)), T (padR (pc t i)), Z 0]) := fun i hi => by
    have := open_ok (sec (i + 1) (pc t i))
    rw [sec_opn (by omega) (by omega) (pc_len t i)] at this
    exact this
  have hG : SP 23 [.vs (npc t) (pcs t (npc t)), Z (bs t).size] (.tup [T t, Z 0]) := by
    have hfl : ((List.range (npc t)).map (pc t)).flatten = t := by
      rw [flat_pcs, List.take_of_length_le (by unfold npc; omega)]
    have := glue_ok ((List.range (npc t)).map (pc t)) ((bs t).size : Int) (by simp; omega) (by rw [hfl]; omega)
    rw [show glu ((List.range (npc t)).map (pc t)) ((bs t).size : Int) = (t, 0) by
      unfold glu
      rw [hfl, if_neg (by omega), if_neg (by rw [bs_size]; omega), bs_size, Int.toNat_natCast, List.take_length]] at this
    rw [← pcs_T, List.length_map, List.length_range] at this
    exact this
  by_cases he : e = 0
  · by_cases hf : f = 0
    · have o0 := ea.1 he
      have o1 := fa.1 hf
      have a0 := eb o0
      have b0 := fb o1
      subst a0 b0
      have hP := parts_mk o0
      have w0 : 1 ≤ g0 ∧ g0 ≤ 1099511627776 ∧ 0 ≤ p0 ∧ p0 < 1048575 := o0
      have w1 : 1 ≤ g1 ∧ g1 ≤ 1099511627776 ∧ 0 ≤ p1 ∧ p1 < 1048575 := o1
      by_cases c1 : g0 < g1
      · exact back_lt g0 g1 _ _ _ p0 p1 e f t _ _ _ _ (by omega) hk he hf c1 (by rw [decide_eq_true (by unfold mk2; omega)]; rfl) hP hA hB hC hN hcs hq hr hpre hzero hS hO hG
      · by_cases c2 : g0 = g1
        · refine back_eq g0 g1 _ _ _ p0 p1 e f t _ _ _ _ (by omega) hk he hf c2 ?_ hP hA hB hC hN hcs hq hr hpre hzero hS hO hG
          have : (((mk2 g0 p0 : Nat) : Int) < ((mk2 g1 p1 : Nat) : Int)) ↔ p0 < p1 := by unfold mk2; omega
          rw [decide_eq_decide.mpr this]; exact beq_self_eq_true _
        · exact back_gt g0 g1 _ _ _ p0 p1 e f t _ _ _ _ (by omega) hk he hf (by omega) (by rw [decide_eq_false (by unfold mk2; omega)]; rfl) hP hA hB hC hN hcs hq hr hpre hzero hS hO hG
    · exact back_err1 g0 g1 a b _ p0 p1 e f t _ _ _ _ (by omega) hk ⟨he, hf⟩ hA hB hC hN hcs hq hr hpre hzero hS hO hG
  · exact back_err0 g0 g1 a b _ p0 p1 e f t _ _ _ _ (by omega) hk he hA hB hC hN hcs hq hr hpre hzero hS hO hG
theorem cells_ii {cs : Array Value} (h : CellsOk [.int .i64, .int .i64] cs.toList) : ∃ a b : Int, cs = #[.int .i64 a, .int .i64 b] := by
  obtain ⟨v0, r0, e0, ⟨k0, rfl, hk0⟩, hr0⟩ := h.cons_
  obtain ⟨v1, r1, e1, ⟨k1, rfl, hk1⟩, hr1⟩ := hr0.cons_
  have e2 := hr1.empty_
  subst e2 e1
  refine ⟨k0, k1, ?_⟩
  apply Array.ext'
  rw [e0]
theorem stampBack_walk (a b : Array Value) (t : List UInt8) (w : World) (ha : CellsOk [.int .u64, .int .u64] a.toList) (hb : CellsOk [.int .i64, .int .i64] b.toList) (ht : t.length ≤ 9223372036854775807) :
    Calls Try.prog 6 #[.agg a, .agg b, .string (bs t)] w fun e w' => e = .returned (.bool true) ∧ Below w.heap.size w w' := by
  obtain ⟨m0, m1, h0, h1, rfl⟩ := cells_uu ha
  obtain ⟨a0, a1, rfl⟩ := cells_ii hb
  refine calls_at (avs := [mks m0 m1, ints a0 a1, T t]) (back_all m0 m1 a0 a1 t h0 h1) w (fun _ _ => False) (fun _ _ h => h.elim) _ rfl fun j hj => ?_
  match j, hj with
  | 0, _ => exact .ex _ _
  | 1, _ => exact .ex _ _
  | 2, _ => exact .ex _ _
end Go.Proofs.Ytjfkfldlmhbnkaa.Av
