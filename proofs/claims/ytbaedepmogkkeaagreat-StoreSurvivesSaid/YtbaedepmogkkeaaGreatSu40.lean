/- What the claim stands on, Su40: contracts of functions and plain facts. No conditions. -/
import Derived.Test.YtbaedepmogkkeaaGreatSu39
namespace Go.Proofs.YtbaedepmogkkeaaGreat.Av
open Go Go.RowKit Tre
set_option linter.unusedVariables false
set_option linter.unusedSimpArgs false
theorem ssurv_ok (x y : Int) (Ls : List (List OpP)) (hl : ∀ os ∈ Ls, os.length ≤ 9223372036854775807) (os : List OpP) (ho : os.length ≤ 9223372036854775807) (k : Wrk) (hk : k.ok) (ag : List Wrk) (hago : ∀ x ∈ ag, Wrk.ok x) : SP 8 [bchA Ls, bcA os, lostA x y k ag.length (wksC ag)] (B true) := by
 rcases over18_ok Ls 20 (by omega) hl with ⟨_, co⟩ | ⟨⟨h1, h2⟩, co⟩
 ·by_cases h3 : Over13 os
  ·exact ssurv_over x y Ls os k ag true co 1 (over13_yes ho h3) (.inl rfl)
  ·exact ssurv_over x y Ls os k ag true co 0 (over13_no h3) (.inl rfl)
 ·by_cases h3 : Over13 os
  ·exact ssurv_over x y Ls os k ag false co 1 (over13_yes ho h3) (.inr ⟨rfl, .inl (by omega)⟩)
  ·by_cases h4 : 5 < ag.length
   ·exact ssurv_over x y Ls os k ag false co 0 (over13_no h3) (.inr ⟨rfl, .inr ⟨rfl, h4⟩⟩)
   ·obtain ⟨A, Lg, hs, cn⟩ := near18_ok x y
    exact ssurv_in A Lg hs x y cn Ls h1 h2 co os h3 k hk ag (by omega) hago
theorem avk_wrecks {v : AV} (h : AvK (.sl [.int .i64, .int .u64, .int .i64, .int .i64]) v) : ∃ l : List Wrk, v = .vs l.length (wksC l) ∧ ∀ x ∈ l, x.ok := by
 obtain ⟨rows, rfl, hn, hl, hk⟩ := h.sl_
 obtain ⟨l, h1, h2, h3⟩ := rows_list (rows := rows) wkC Wrk.ok fun r hr => by
  have h3 := hl r hr
  have h4 := hk r hr
  match r, h3 with
  | [v1, v2, v3, v4], _ =>
   obtain ⟨a, rfl, _, _⟩ := (h4 0 _ v1 rfl rfl).i64_
   obtain ⟨b, rfl, hb⟩ := (h4 1 _ v2 rfl rfl).u64_
   obtain ⟨c, rfl, _, _⟩ := (h4 2 _ v3 rfl rfl).i64_
   obtain ⟨d, rfl, _, _⟩ := (h4 3 _ v4 rfl rfl).i64_
   exact ⟨⟨a, b, c, d⟩, hb, rfl⟩
 refine ⟨l, ?_, h3⟩
 rw [h2, ← h1]
 unfold wksC
 rw [List.flatMap_def]
theorem storeSurvives_walk (v0 : Value) (a0 : AV) (v1 : Value) (a1 : AV) (v2 : Value) (a2 : List AV) (w : World) (k0 : AvK (.sl [.sl [.int .u8, .str, .str]]) a0) (r0 : Rep w p0 c0 (allF w) noD a0 v0) (k1 : AvK (.sl [.int .u8, .str, .str]) a1) (r1 : Rep w p0 c0 (allF w) noD a1 v1)
  (l2 : a2.length = 7) (k2 : ∀ (i : Nat) k a, [KT.int .i64, .int .i64, .int .i64, .int .u64, .int .i64, .int .i64, .sl [.int .i64, .int .u64, .int .i64, .int .i64]][i]? = some k → a2[i]? = some a → AvK k a) (r2 : Rep w p0 c0 (allF w) noD (.agg a2) v2) :
  Calls Tryz.prog 8 #[v0, v1, v2] w fun e w' => e = .returned (.bool true) ∧ Below w.heap.size w w' := by
 obtain ⟨Ls, rfl, h1, h2⟩ := avk_batches k0
 obtain ⟨os, rfl, h3⟩ := avk_ops k1
 match a2, l2 with
 | [x1, x2, x3, x4, x5, x6, x7], _ =>
  obtain ⟨x, rfl, _, _⟩ := (k2 0 _ x1 rfl rfl).i64_
  obtain ⟨y, rfl, _, _⟩ := (k2 1 _ x2 rfl rfl).i64_
  obtain ⟨a, rfl, _, _⟩ := (k2 2 _ x3 rfl rfl).i64_
  obtain ⟨b, rfl, hb⟩ := (k2 3 _ x4 rfl rfl).u64_
  obtain ⟨c, rfl, _, _⟩ := (k2 4 _ x5 rfl rfl).i64_
  obtain ⟨d, rfl, _, _⟩ := (k2 5 _ x6 rfl rfl).i64_
  obtain ⟨ag, rfl, hag⟩ := avk_wrecks (k2 6 _ x7 rfl rfl)
  refine calls_k (ssurv_ok x y Ls h2 os h3 ⟨a, b, c, d⟩ hb ag hag) w _ rfl fun j hj => ?_
  match j, hj with
  | 0, _ => exact r0
  | 1, _ => exact r1
  | 2, _ => exact r2
end Go.Proofs.YtbaedepmogkkeaaGreat.Av
