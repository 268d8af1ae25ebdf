/- The statement TapeTorn of the seat: whatever the input, the law returns true and its input reads afterwards as before. No conditions: every input that can be read. -/
import Derived.Test.YtjfkfldlmhbnkaaRows
import Derived.Test.YtjfkfldlmhbnkaaOpen
import Derived.Test.YtjfkfldlmhbnkaaTape20
import Derived.Test.YtjfkfldlmhbnkaaTape21
namespace Go.Proofs.Ytjfkfldlmhbnkaa.Av
open Go Go.RowKit
set_option linter.unusedVariables false
set_option linter.unusedSimpArgs false
set_option maxRecDepth 100000

theorem laidL_64 {g : Nat} (hg : 1 ≤ g ∧ g ≤ 1099511627776) {l : List (List UInt8)} (h : GoodL l) (hl : l.length ≤ 12) : ∀ i (hi : i < (laidL g 0 l).length), ((laidL g 0 l)[i]).length = 64 := by
  intro i hi
  have hk := laidL_len g h 0
  have hle := lenL_le h
  obtain ⟨t, b, j, h1, h2⟩ := laidL_any (g := g) h 0 i (by omega)
  rw [List.getElem?_eq_getElem hi] at h2
  injection h2 with h2
  rw [h2]
  exact (secT_ends (by rw [h1]; exact okM_of hg (by omega))).1
theorem torn17_all (L O : List (List UInt8)) (keep c : Nat) (tn : Int) (hL : L.length ≤ 9223372036854775807) (hO : O.length ≤ 9223372036854775807) (hc : c < 256) (hkeep : keep < 18446744073709551616) (htn : -9223372036854775808 ≤ tn ∧ tn ≤ 9223372036854775807) :
    SP 14 [.vs L.length (L.map T), .vs O.length (O.map T), lossA keep tn c] (B true) := by
  by_cases hgl : GoodL L ∧ L.length ≤ 12
  case neg => exact ttorn_out1 (few_no hL hgl)
  obtain ⟨h, hl⟩ := hgl
  by_cases hgo : GoodL O ∧ O.length ≤ 12
  case neg => exact ttorn_out2 (few_yes h hl) (few_no hO hgo)
  obtain ⟨ho, hol⟩ := hgo
  by_cases h0 : L = []
  · subst h0
    exact ttorn_out3 (few_yes h hl) (few_yes ho hol) rfl
  have hpos : 0 < L.length := List.length_pos_iff.2 h0
  have hlt : L.length - 1 < L.length := by omega
  have ht := h _ (List.getElem_mem hlt)
  have hm := lenL_take L hlt
  rw [show L.length - 1 + 1 = L.length by omega, List.take_length] at hm
  have hle := lenL_le h
  have hle2 := lenL_le ho
  have hk := laidL_len 7 h 0
  have hk2 := laidL_len 6 ho 0
  have hfi : lenL L - szT (L[L.length - 1]).length = lenL (L.take (L.length - 1)) := by omega
  have same1 := same_vv L L (by omega) (by omega)
  rw [decide_eq_true rfl] at same1
  have hcast : ((L.length : Int) - 1) = ((L.length - 1 : Nat) : Int) := by omega
  refine ttorn_all (K := laidL 7 0 L) (W := laidL 6 0 O) (q := szT (L[L.length - 1]).length) (n := lenL L) (nw := lenL O) (s0 := L[L.length - 1]) hc hkeep htn hpos hl (by omega) hk.symm hk2.symm (by omega) (by omega) (laidL_64 (by omega) h hl) (laidL_64 (by omega) ho hol)
    (few_yes h hl) (few_yes ho hol) (laid_ok (g := 7) (by omega) h hl) (laid_ok (g := 6) (by omega) ho hol) (by rw [hcast]; exact atI_T hlt) (by rw [bs_size]; exact size_ok _) (by rw [hs1', List.length_map]; omega) (fun M hM hw => ?_) (fun M hM hw => ?_) same1
  · have hMl : M.length = max (lenL L) (lenL O) := by rw [hM.len, hk, hk2]
    exact scan_walk M 7 (by omega) (L, ((lenL L : Nat) : Int)) (left_whole h ho hl hol hM hw _ (by omega))
  · have hMl : M.length = max (lenL L) (lenL O) := by rw [hM.len, hk, hk2]
    have same2 := same_vv (L.take (L.length - 1)) (L.take (L.length - 1)) (by rw [List.length_take]; omega) (by rw [List.length_take]; omega)
    rw [decide_eq_true rfl] at same2
    refine ⟨_, _, scan_walk M 7 (by omega) (L.take (L.length - 1), ((lenL L - szT (L[L.length - 1]).length : Nat) : Int)) (left_broken h ho hl hol h0 hfi hM hw _ (by omega)), ?_⟩
    rw [hcast, cutA_T _ (by omega)]
    exact same2
theorem cells_loss {cs : Array Value} (h : CellsOk [.int .u64, .int .i64, .int .u8] cs.toList) : ∃ (a : Nat) (b : Int) (c : Nat), a < 18446744073709551616 ∧ (-9223372036854775808 ≤ b ∧ b ≤ 9223372036854775807) ∧ c < 256 ∧ cs = #[.int .u64 a, .int .i64 b, .int .u8 c] := by
  obtain ⟨v0, r0, e0, ⟨k0, rfl, hk0⟩, hr0⟩ := h.cons_
  obtain ⟨v1, r1, e1, ⟨k1, rfl, hk1⟩, hr1⟩ := hr0.cons_
  obtain ⟨v2, r2, e2, ⟨k2, rfl, hk2⟩, hr2⟩ := hr1.cons_
  have e3 := hr2.empty_
  subst e3 e2 e1
  have b0 := bounds_u64 hk0
  have b1 := bounds_i64 hk1
  have b2 := bounds_u8 hk2
  refine ⟨k0.toNat, k1, k2.toNat, by omega, by omega, by omega, ?_⟩
  rw [Int.toNat_of_nonneg b0.1, Int.toNat_of_nonneg b2.1]
  apply Array.ext'
  rw [e0]
theorem tapeTorn_walk (rows : List (List Value)) (k : Nat) (F : Nat → Nat → Prop) (v : Value) (rows2 : List (List Value)) (k2 : Nat) (F2 : Nat → Nat → Prop) (v2 : Value) (b : Array Value) (w : World) (hq : rows.length = k) (hz : k ≤ 9223372036854775807)
    (hok : ∀ r ∈ rows, CellsOk [.str] r) (hlo : ∀ g j, F g j → g < w.heap.size) (hrep : ∀ F' : Nat → Nat → Prop, (∀ g j, F g j → F' g j) → Rep w p0 c0 F' noD (.vs k (rows.flatten.map .ex)) v)
    (hq2 : rows2.length = k2) (hz2 : k2 ≤ 9223372036854775807)
    (hok2 : ∀ r ∈ rows2, CellsOk [.str] r) (hlo2 : ∀ g j, F2 g j → g < w.heap.size) (hrep2 : ∀ F' : Nat → Nat → Prop, (∀ g j, F2 g j → F' g j) → Rep w p0 c0 F' noD (.vs k2 (rows2.flatten.map .ex)) v2) (hb : CellsOk [.int .u64, .int .i64, .int .u8] b.toList) :
    Calls Try.prog 14 #[v, v2, .agg b] w fun e w' => e = .returned (.bool true) ∧ Below w.heap.size w w' := by
  obtain ⟨g, h, c, h0, h1, h2, rfl⟩ := cells_loss hb
  obtain ⟨L, e1, e2, e3⟩ := rows_T hok
  obtain ⟨O, o1, o2, o3⟩ := rows_T hok2
  have hr := hrep (fun g j => F g j ∨ F2 g j) fun _ _ h => .inl h
  have hr2 := hrep2 (fun g j => F g j ∨ F2 g j) fun _ _ h => .inr h
  rw [e2, ← hq, ← e1] at hr
  rw [o2, ← hq2, ← o1] at hr2
  refine calls_at (torn17_all L O g c h (by omega) (by omega) h2 h0 h1) w (fun g j => F g j ∨ F2 g j) (fun g j h => h.elim (hlo g j) (hlo2 g j)) _ rfl fun j hj => ?_
  match j, hj with
  | 0, _ => exact hr
  | 1, _ => exact hr2
  | 2, _ => exact .ex _ _
end Go.Proofs.Ytjfkfldlmhbnkaa.Av
namespace Go.Proofs.Ytjfkfldlmhbnkaa.tapeTornRow
open Go.ChangeShapes Go.WideShapes Go.ChangeAt Go.RowKit
set_option linter.unusedVariables false

theorem own : ownKnob Try.prog.godebug = none := by kernel_rfl
theorem laidOut : laidOutB Try.prog = true := by kernel_rfl

set_option maxHeartbeats 1000000 in
set_option maxRecDepth 100000 in
theorem lifted (os : Os) (started : os.Started) (H : Type) (enc : TypeId × Value → H) :
    ReturnsInHanded {} Try.checked os 14 .any (Rows.tapeTornSpec.pre6 enc Try.prog Try.f14 Rows.tapeTornRow.domain false) (Rows.tapeTornSpec.post enc Try.prog Try.f14 false true false false) := by
  refine returnsInHanded_of_change (C := Try.checked) own started (by kernel_rfl) Try.func14
    (ChangeSpec.witness6 (enc := enc) (C := Try.checked) false ⟨#[], #[.slice none 0 0, .slice none 0 0, .agg #[.int .u64 0, .int .i64 0, .int .u8 0]], []⟩ 8 (by kernel_rfl) (by kernel_rfl) (by kernel_rfl) (by kernel_rfl)) ?_
  intro W base args ds gs before hval0 hW _ _
  have hval : ∀ (j : Nat) t v, Try.f14.params[j]? = some t → args[j]? = some v → Value.okWide Try.prog W .any base t v := hval0
  have hW' := hW
  obtain ⟨p, q, hA0, hV, rfl, _, _⟩ := hW
  have hA : DataW.TrodAll enc Try.prog W 0 (fun _ => true) true Try.f14.params.toList args.toList ds p := hA0
  rw [Try.params14] at hA hval
  obtain ⟨v0, vs0, d0, ds0, p0, q0, hargs, rfl, rfl, h0, r0⟩ := trodAll_cons hA
  obtain ⟨v1, vs1, d1, ds1, p1, q1, rfl, rfl, rfl, h1, r1⟩ := trodAll_cons r0
  obtain ⟨v2, vs2, d2, ds2, p2, q2, rfl, rfl, rfl, h2, r2⟩ := trodAll_cons r1
  obtain ⟨rfl, rfl, rfl⟩ := trodAll_nil r2
  obtain rfl : args = #[v0, v1, v2] := by cases args; simp_all
  obtain ⟨rfl, rfl⟩ := trodVars_none hV
  have lt0 : ∀ x ∈ p0, x.block < W.heap.size := by obtain ⟨m, hm⟩ := h0; exact DataW.trod_lt m _ _ _ hm
  have lt1 : ∀ x ∈ p1, x.block < W.heap.size := by obtain ⟨m, hm⟩ := h1; exact DataW.trod_lt m _ _ _ hm
  have lt2 : ∀ x ∈ p2, x.block < W.heap.size := by obtain ⟨m, hm⟩ := h2; exact DataW.trod_lt m _ _ _ hm
  obtain ⟨ad0, n0, c0, rfl, e0, le0, mx0, no0⟩ := open_slice_ (n := 9) (ks := [.str]) Try.underlying32 (by kernel_rfl : flat Try.prog 9 9 = _) (by kernel_rfl) (hval 0 32 v0 rfl rfl) h0
  obtain ⟨a0, q0, z0, ok0, lo0, rep0⟩ := Av.slice_av Try.underlying32 (hval 0 32 _ rfl rfl) e0 le0 mx0 no0 (by decide)
  obtain ⟨ad1, n1, c1, rfl, e1, le1, mx1, no1⟩ := open_slice_ (n := 9) (ks := [.str]) Try.underlying32 (by kernel_rfl : flat Try.prog 9 9 = _) (by kernel_rfl) (hval 1 32 v1 rfl rfl) h1
  obtain ⟨a1, q1, z1, ok1, lo1, rep1⟩ := Av.slice_av Try.underlying32 (hval 1 32 _ rfl rfl) e1 le1 mx1 no1 (by decide)
  obtain ⟨a2, rfl, e2⟩ := open_agg_ (n := 9) (ks := [.int .u64, .int .i64, .int .u8]) Try.underlying95 rfl (by kernel_rfl) (hval 2 95 v2 rfl rfl) h2
  clear hA0 hval0
  refine (Av.tapeTorn_walk a0 n0 _ _ a1 n1 _ _ a2 W q0 z0 ok0 lo0 rep0 q1 z1 ok1 lo1 rep1 e2).mono fun e W' ⟨he, bel⟩ => ?_
  subst he
  exact ⟨_, rfl, _, _, _, [], _, [], hW', trodAll_mk1 (shut_bool Try.underlying4 _), (trodAll_cons_mk (Below.trod laidOut (by kernel_rfl) (of_decide_eq_true (by kernel_rfl)) h0 bel lt0) (trodAll_cons_mk (Below.trod laidOut (by kernel_rfl) (of_decide_eq_true (by kernel_rfl)) h1 bel lt1) (trodAll_cons_mk (Below.trod laidOut (by kernel_rfl) (of_decide_eq_true (by kernel_rfl)) h2 bel lt2) trodAll_mk0))), rfl, bel.frame _, fun h => by cases h⟩

theorem proved : Rows.TapeTornSaid :=
  OpenClaim.holds_of_wide 14 Try.f14 rfl rfl rfl rfl rfl rfl rfl ⟨rfl, rfl, rfl, rfl, rfl⟩ rfl rfl rfl rfl rfl (by kernel_rfl) Try.func14 (by kernel_rfl)
    (of_decide_eq_true (by kernel_rfl)) (by unfold Func.isWrapper; first | (rw [if_pos (by decide +kernel)]; kernel_rfl) | (rw [if_neg (by decide +kernel)]; exact ⟨rfl, rfl⟩))
    (fun os started H enc _ => lifted os started H enc)
#print axioms proved
end Go.Proofs.Ytjfkfldlmhbnkaa.tapeTornRow
