/- cache: CacheTrue at the model. No conditions. -/
import Derived.Test.YtdicpbecdhaphaaOpen2
import Derived.Test.YtdicpbecdhaphaaCTrue
namespace Go.Proofs.Ytdicpbecdhaphaa.Av
open Go Go.RowKit Go.ChangeShapes Go.WideShapes LruK
set_option linter.unusedVariables false
set_option linter.unusedSimpArgs false
set_option maxRecDepth 100000
/-- rows of ops -/
theorem rows_K {rows : List (List Value)} (h : ∀ r ∈ rows, CellsOk [.int .u8, .str, .str] r) : ∃ os : List LruK.OpK, os.length = rows.length ∧ rows.flatten.map .ex = LruK.opL os := by
  induction rows with
  | nil => exact ⟨[], rfl, rfl⟩
  | cons r rows ih =>
    obtain ⟨os, h1, h2⟩ := ih fun r hr => h r (by simp [hr])
    obtain ⟨v, q1, rfl, ⟨k, rfl, hk⟩, hq1⟩ := (h r (by simp)).cons_
    obtain ⟨v, q2, rfl, ⟨l, rfl, hl⟩, hq2⟩ := hq1.cons_
    obtain ⟨v, q3, rfl, ⟨m, rfl, hm⟩, hq3⟩ := hq2.cons_
    have := hq3.empty_
    subst this
    have hb := bounds_u8 hk
    refine ⟨(k.toNat, l, m) :: os, by simp [h1], ?_⟩
    rw [List.flatten_cons, List.map_append, h2]
    show [AV.ex (.int .u8 k), T l, T m] ++ LruK.opL os = [AV.ex (.int .u8 (k.toNat : Int)), T l, T m] ++ LruK.opL os
    rw [Int.toNat_of_nonneg hb.1]
theorem cacheTrue_walk (a : UInt8) (rows : List (List Value)) (k : Nat) (F : Nat → Nat → Prop) (v : Value) (w : World) (hq : rows.length = k) (hz : k ≤ 9223372036854775807)
    (hok : ∀ r ∈ rows, CellsOk [.int .u8, .str, .str] r) (hlo : ∀ g j, F g j → g < w.heap.size) (hrep : ∀ F' : Nat → Nat → Prop, (∀ g j, F g j → F' g j) → Rep w p0 c0 F' noD (.vs k (rows.flatten.map .ex)) v) :
    Calls Try.prog 10 #[.int .u8 (a.toNat : Int), v] w fun e w' => e = .returned (.bool true) ∧ Below w.heap.size w w' := by
  obtain ⟨os, e1, e2⟩ := rows_K hok
  have hr := hrep F fun _ _ h => h
  rw [e2, ← hq, ← e1] at hr
  refine calls_at (avs := [.ex (.int .u8 (a.toNat : Int)), LruK.opA os]) (LruK.true_ok a.toNat a.toNat_lt os (by omega)) w F hlo _ rfl fun j hj => ?_
  match j, hj with
  | 0, _ => exact .ex _ _
  | 1, _ => exact hr
end Go.Proofs.Ytdicpbecdhaphaa.Av
