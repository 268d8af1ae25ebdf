/- disk: what comes in as arguments; the laws at the model. No conditions. -/
import Derived.Test.YtdjdcpbakeahcaaDisk13
namespace Go.Proofs.Ytdjdcpbakeahcaa.Av
open Go Go.RowKit Go.ChangeShapes Go.WideShapes
set_option linter.unusedVariables false
set_option linter.unusedSimpArgs false
set_option maxRecDepth 100000

abbrev ckD : List CK := [.int .u8, .int .i64, .str, .bool, .int .u64, .int .i64, .int .i64]
theorem rows_D {rows : List (List Value)} (h : ∀ r ∈ rows, CellsOk ckD r) : ∃ os : List DOp, os.length = rows.length ∧ rows.flatten.map .ex = dopC os ∧ ∀ o ∈ os, o.ok := by
  induction rows with
  | nil => exact ⟨[], rfl, rfl, fun o ho => by cases ho⟩
  | cons r rows ih =>
    obtain ⟨os, h1, h2, h3⟩ := ih fun r hr => h r (by simp [hr])
    obtain ⟨v, q1, rfl, ⟨k, rfl, hk⟩, hq1⟩ := (h r (by simp)).cons_
    obtain ⟨v, q2, rfl, ⟨n, rfl, hn⟩, hq2⟩ := hq1.cons_
    obtain ⟨v, q3, rfl, ⟨s, rfl, hs⟩, hq3⟩ := hq2.cons_
    obtain ⟨v, q4, rfl, ⟨b, rfl⟩, hq4⟩ := hq3.cons_
    obtain ⟨v, q5, rfl, ⟨u, rfl, hu⟩, hq5⟩ := hq4.cons_
    obtain ⟨v, q6, rfl, ⟨t, rfl, ht⟩, hq6⟩ := hq5.cons_
    obtain ⟨v, q7, rfl, ⟨c, rfl, hc⟩, hq7⟩ := hq6.cons_
    have := hq7.empty_
    subst this
    have hb := bounds_u8 hk
    have hb2 := bounds_u64 hu
    refine ⟨⟨k.toNat, n, s, b, ⟨u.toNat, t, c⟩⟩ :: os, by simp [h1], ?_, fun o ho => ?_⟩
    · rw [List.flatten_cons, List.map_append, h2]
      show [AV.ex (.int .u8 k), Z n, T s, B b, U u, Z t, Z c] ++ dopC os = [AV.ex (.int .u8 (k.toNat : Int)), Z n, T s, B b, U (u.toNat : Int), Z t, Z c] ++ dopC os
      rw [Int.toNat_of_nonneg hb.1, Int.toNat_of_nonneg hb2.1]
    · rcases List.mem_cons.1 ho with rfl | ho
      · show u.toNat < 18446744073709551616; omega
      · exact h3 o ho
theorem plan_of {cs : Array Value} (h : CellsOk [.int .u64, .int .i64, .int .i64] cs.toList) : ∃ p : Plan, p.keep < 18446744073709551616 ∧ cs = #[.int .u64 p.keep, .int .i64 p.torn, .int .i64 p.cut] := by
  obtain ⟨v, q1, e1, ⟨u, rfl, hu⟩, hq1⟩ := h.cons_
  obtain ⟨v, q2, rfl, ⟨t, rfl, ht⟩, hq2⟩ := hq1.cons_
  obtain ⟨v, q3, rfl, ⟨c, rfl, hc⟩, hq3⟩ := hq2.cons_
  have := hq3.empty_
  subst this
  have hb2 := bounds_u64 hu
  refine ⟨⟨u.toNat, t, c⟩, by show u.toNat < _; omega, ?_⟩
  apply Array.ext'
  rw [e1]
  show [Value.int .u64 u, _, _] = [Value.int .u64 (u.toNat : Int), _, _]
  rw [Int.toNat_of_nonneg hb2.1]
theorem diskDoes_walk (n : Int) (rows : List (List Value)) (k : Nat) (F : Nat → Nat → Prop) (v : Value) (m : Int) (w : World) (hn0 : -9223372036854775808 ≤ n) (hn1 : n ≤ 9223372036854775807) (hq : rows.length = k) (hz : k ≤ 9223372036854775807)
    (hok : ∀ r ∈ rows, CellsOk ckD r) (hlo : ∀ g j, F g j → g < w.heap.size) (hrep : ∀ F' : Nat → Nat → Prop, (∀ g j, F g j → F' g j) → Rep w p0 c0 F' noD (.vs k (rows.flatten.map .ex)) v) (hm0 : -9223372036854775808 ≤ m) (hm1 : m ≤ 9223372036854775807) :
    Calls Try.prog 3 #[.int .i64 n, v, .int .i64 m] w fun e w' => e = .returned (.bool true) ∧ Below w.heap.size w w' := by
  obtain ⟨os, e1, e2, e3⟩ := rows_D hok
  have hr := hrep F fun _ _ h => h
  rw [e2, ← hq, ← e1] at hr
  refine calls_at (avs := [Z n, .vs os.length (dopC os), Z m]) (ddoes_ok n m os (by omega) e3) w F hlo _ rfl fun j hj => ?_
  match j, hj with
  | 0, _ => exact .ex _ _
  | 1, _ => exact hr
  | 2, _ => exact .ex _ _
theorem diskNobody_walk (n : Int) (s : List UInt8) (cs : Array Value) (w : World) (hn0 : -9223372036854775808 ≤ n) (hn1 : n ≤ 9223372036854775807) (hs : s.length ≤ 9223372036854775807) (hc : CellsOk [.int .u64, .int .i64, .int .i64] cs.toList) :
    Calls Try.prog 4 #[.int .i64 n, .string (bs s), .agg cs] w fun e w' => e = .returned (.bool true) ∧ Below w.heap.size w w' := by
  obtain ⟨p, hp, rfl⟩ := plan_of hc
  refine calls_at (avs := [Z n, T s, planA p]) (dnobody_ok n s p) w (fun _ _ => False) (fun _ _ h => h.elim) _ rfl fun j hj => ?_
  match j, hj with
  | 0, _ => exact .ex _ _
  | 1, _ => exact .ex _ _
  | 2, _ => exact .ex _ _
end Go.Proofs.Ytdjdcpbakeahcaa.Av
