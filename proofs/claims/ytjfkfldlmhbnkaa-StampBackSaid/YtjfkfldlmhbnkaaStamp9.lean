/- stamp: the law on cutting holds of all numbers, texts and payloads. No conditions but that numbers have 64 bits. -/
import Derived.Test.YtjfkfldlmhbnkaaStamp8
import Derived.Test.YtjfkfldlmhbnkaaOpen2
namespace Go.Proofs.Ytjfkfldlmhbnkaa.Av
open Go Go.RowKit
set_option linter.unusedVariables false
set_option linter.unusedSimpArgs false

theorem flat_small : ∀ (L : List (List UInt8)), (∀ l ∈ L, l.length ≤ 200) → L.flatten.length ≤ 200 * L.length
  | [], _ => by simp
  | l :: L, h => by
    have h1 := h l (by simp)
    have h2 := flat_small L fun x hx => h x (by simp [hx])
    rw [List.flatten_cons, List.length_append, List.length_cons]; omega
theorem pcs_T (t : List UInt8) (k : Nat) : pcs t k = ((List.range k).map (pc t)).map T := by simp [pcs]
theorem cuts_all (n : Int) (t : List UInt8) (L : List (List UInt8)) (h1 : -9223372036854775808 ≤ n) (h2 : n ≤ 9223372036854775807) :
    SP 4 [Z n, T t, .vs L.length (L.map T)] (B true) := by
  by_cases ht : 300 < (bs t).size
  · by_cases ho : OverB L
    · exact cuts_over n t L 1 (.inl ht) (over_yes ho)
    · exact cuts_over n t L 0 (.inl ht) (over_no ho)
  · by_cases ho : OverB L
    · exact cuts_over n t L 1 (.inr rfl) (over_yes ho)
    · have hl : t.length ≤ 300 := by rw [bs_size] at ht; omega
      have hn : ¬ 40 < L.length := fun hh => ho (.inl hh)
      have hs : ∀ l ∈ L, l.length ≤ 200 := fun l hl => by
        apply Classical.byContradiction
        intro hh
        exact ho (.inr ⟨l, hl, by omega⟩)
      have hf := flat_small L hs
      have h3 := glue_ok L n (by omega) (by omega)
      have h4 := rglue_all L n (by omega) (by omega)
      have h5 := count_ok n h2
      have h6 := rcount_ok n h2
      have hp : npc t ≤ 7 := by unfold npc; omega
      by_cases hk : n < npc t
      · exact cuts_nil n t _ L _ _ (by omega) (over_no ho) (cut_no t n (by omega) hk) (rcut_no t n (by omega) hk) h3 h4 h5 h6
      · refine cuts_own n t _ L (npc t) (pcs t (npc t)) _ _ (by omega) (over_no ho) ?_ (cut_yes t n (by omega) (by omega)) (rcut_yes t n (by omega) (by omega)) h3 h4 h5 h6
        have hv := same_vv ((List.range (npc t)).map (pc t)) ((List.range (npc t)).map (pc t)) (by simp; omega) (by simp; omega)
        rw [decide_eq_true rfl] at hv
        have e : txs ((List.range (npc t)).map (pc t)) = .vs (npc t) (pcs t (npc t)) := by
          show AV.vs _ _ = _
          rw [← pcs_T, List.length_map, List.length_range]
        rw [e] at hv
        exact hv
theorem stampCuts_walk (n : Int) (t : List UInt8) (rows : List (List Value)) (k : Nat) (F : Nat → Nat → Prop) (v : Value) (w : World) (h1 : -9223372036854775808 ≤ n) (h2 : n ≤ 9223372036854775807) (ht : t.length ≤ 9223372036854775807) (hq : rows.length = k) (hz : k ≤ 9223372036854775807)
    (hok : ∀ r ∈ rows, CellsOk [.str] r) (hlo : ∀ g j, F g j → g < w.heap.size) (hrep : ∀ F' : Nat → Nat → Prop, (∀ g j, F g j → F' g j) → Rep w p0 c0 F' noD (.vs k (rows.flatten.map .ex)) v) :
    Calls Try.prog 4 #[.int .i64 n, .string (bs t), v] w fun e w' => e = .returned (.bool true) ∧ Below w.heap.size w w' := by
  obtain ⟨L, e1, e2, e3⟩ := rows_T hok
  have hr := hrep F fun _ _ h => h
  rw [e2, ← hq, ← e1] at hr
  refine calls_at (cuts_all n t L h1 h2) w F hlo _ rfl fun j hj => ?_
  match j, hj with
  | 0, _ => exact .ex _ _
  | 1, _ => exact .ex _ _
  | 2, _ => exact hr
end Go.Proofs.Ytjfkfldlmhbnkaa.Av
