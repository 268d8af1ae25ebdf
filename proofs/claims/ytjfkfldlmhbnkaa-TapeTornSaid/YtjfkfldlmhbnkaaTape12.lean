/- tape: the laws on laying and scanning. No conditions but that numbers have 64 bits. -/
import Derived.Test.YtjfkfldlmhbnkaaTape11
import Derived.Test.YtjfkfldlmhbnkaaOver
import Derived.Test.YtjfkfldlmhbnkaaOpen2
namespace Go.Proofs.Ytjfkfldlmhbnkaa.Av
set_option maxHeartbeats 1000000
open Go Go.RowKit
set_option linter.unusedVariables false
set_option linter.unusedSimpArgs false
set_option maxRecDepth 100000

theorem awake17_ok : SP 42 [] (B true) := by
  have e0 : npc (Quill.rowB [97, 98]) = 1 := by decide +kernel
  have e1 : npc (Quill.rowB [99]) = 1 := by decide +kernel
  have h1 := lay_yes (t := [97, 98]) (g := 1) (at_ := 0) (most := 3) ⟨by decide, by decide, by decide, by decide, by decide, by decide, by decide, by decide, by decide +kernel⟩
  have h2 := lay_yes (t := [99]) (g := 1) (at_ := 1) (most := 3) ⟨by decide, by decide, by decide, by decide, by decide, by decide, by decide, by decide, by decide +kernel⟩
  have l0 : layT [97, 98] 1 0 = [secT [97, 98] 1 0 0] := by unfold layT; rw [e0]; rfl
  have l1 : layT [99] 1 1 = [secT [99] 1 1 0] := by unfold layT; rw [e1]; rfl
  rw [e0, l0] at h1
  rw [e1, l1] at h2
  have h3 := scan_walk [secT [97, 98] 1 0 0, secT [99] 1 1 0] 1 (by decide) ([[97, 98], [99]], 2) (by decide +kernel)
  have h4 := one_no (L := [secT [99] 1 1 0]) (g := 1) (at_ := 0) (by decide) (by decide +kernel)
  have s1 := size_ok 1
  rw [show szT 1 = 1 by decide +kernel] at s1
  have h5 := lay_bad (by decide) (chk_full (t := [100]) (g := 1) (at_ := 3) (most := 3) (k := 1) (by decide) (by decide) (by decide) (by rw [bs_size]; decide) (by decide) (by decide) (by decide) (by decide) (by decide) s1)
  have h6 := lay_bad (by decide) (chk_range (t := [100]) (g := 1) (at_ := 4) (most := 3) (by decide) (by decide) (by decide) (by rw [bs_size]; decide) (.inr (.inr (.inr (by decide)))))
  have h7 := size_ok 46
  rw [show szT 46 = 1 by decide +kernel] at h7
  have h8 := size_ok 47
  rw [show szT 47 = 2 by decide +kernel] at h8
  have h9 := size_ok 0
  rw [show szT 0 = 0 by decide +kernel] at h9
  exact awake17_walk _ _ h1 h2 h3 h4 h5 h6 h7 h8 h9
abbrev ask (g a m : Int) : AV := .ex (.agg #[.int .u64 g, .int .i64 a, .int .i64 m])
section
variable {t : List UInt8} {g : Nat} {a m : Int}
theorem lays_over (h : 1500 < (bs t).size) : SP 11 [T t, ask g a m] (B true) := by
  refine S_ Try.func11 (by kernel_rfl) rfl (Nat.le_of_ble_eq_true rfl) ?_
  show avc Try.prog SP _ _ _ _ _ _
  dsimp only [avc, startS, Array.toList, Try.f11]
  repeat' ((try conv => whnf) <;> (first | (refine Hold.mk ?_) | (refine And.intro (fun _ => ?_) (fun h => Bool.noConfusion h)) | (refine And.intro (fun h => Bool.noConfusion h) (fun _ => ?_)) | (refine And.intro (Nat.le_of_ble_eq_true rfl) ?_) | (refine And.intro (fun _ => ?_) (fun h => Bool.noConfusion ((beq_self_eq_true _).symm.trans h))) | (refine And.intro (fun h => Bool.noConfusion ((bne_self_eq_false _).symm.trans h)) (fun _ => ?_)) | (refine And.intro (fun h => Bool.noConfusion ((beq_self_eq_true _).symm.trans h)) (fun _ => ?_)) | (refine And.intro (fun _ => ?_) (fun h => Bool.noConfusion ((bne_self_eq_false _).symm.trans h))) | (refine ⟨_, awake17_ok, ?_⟩) | (refine ⟨[], [0, 0, 3, 7, 15, 15, 63, 127, 255, 511, 1023, 2047, 511, 4607, 16383, 32767, 65535, 131071, 262143, 524287, 1048575, 262143, 2359295, 8388607, 16777215, 33554431, 67108863, 134217727, 268435455, 536870911], len_ok rfl (by kernel_rfl), ?_⟩) | (exact True.intro) | (refine And.intro (show eqT _ _ = true by kernel_rfl) ?_) | (refine And.intro rfl ?_) | (refine And.intro (And.intro (Nat.le_of_ble_eq_true rfl) rfl) ?_) | (refine And.intro (And.intro rfl (And.intro rfl rfl)) ?_) | (exact And.intro rfl (And.intro rfl rfl)) | (exact And.intro rfl rfl) | (refine br_lt ?_ ?_ <;> intro hBr <;> (first | (exfalso; omega) | (exfalso; contradiction) | (exfalso; exact hBr rfl) | skip)) | (refine br_lt_ ?_ ?_ <;> intro hBr <;> (first | (exfalso; omega) | (exfalso; contradiction) | (exfalso; exact hBr rfl) | skip)) | (refine br_le ?_ ?_ <;> intro hBr <;> (first | (exfalso; omega) | (exfalso; contradiction) | (exfalso; exact hBr rfl) | skip)) | (refine br_le_ ?_ ?_ <;> intro hBr <;> (first | (exfalso; omega) | (exfalso; contradiction) | (exfalso; exact hBr rfl) | skip)) | (refine br_eq ?_ ?_ <;> intro hBr <;> (first | (exfalso; omega) | (exfalso; contradiction) | (exfalso; exact hBr rfl) | skip)) | (refine br_eq_ ?_ ?_ <;> intro hBr <;> (first | (exfalso; omega) | (exfalso; contradiction) | (exfalso; exact hBr rfl) | skip)) | (refine br_seq ?_ ?_ <;> intro hBr <;> (first | (exfalso; omega) | (exfalso; contradiction) | (exfalso; exact hBr rfl) | skip)) | (refine br_seq_ ?_ ?_ <;> intro hBr <;> (first | (exfalso; omega) | (exfalso; contradiction) | (exfalso; exact hBr rfl) | skip)) | (refine br_not ?_) | (refine br_not_ ?_) | (refine br_and ?_) | (refine br_and_ ?_) | (refine And.intro (by omega) ?_) | (refine ⟨_, wrap_i64 (by omega), ?_⟩) | (refine ⟨_, wrap_u64 (by omega) (by omega), ?_⟩) | (refine ⟨_, wrap_u8 (by omega) (by omega), ?_⟩) | (refine ⟨_, wrap_u32 (by omega) (by omega), ?_⟩) | (refine ⟨_, wrap_u16 (by omega) (by omega), ?_⟩) | (refine ⟨_, rfl, ?_⟩) | (exact rfl)))
theorem lays_no {e k1 k2 : Int} (h : (bs t).size ≤ 1500) (h1 : SP 43 [T t, U g, Z a, Z m] (.tup [nilA, Z e])) (h2 : SP 44 [T t, U g, Z a, Z m] (.tup [nilA, Z e])) (s1 : SP 45 [Z a] (Z k1)) (s2 : SP 46 [Z a] (Z k1))
    (s3 : SP 45 [Z (bs t).size] (Z k2)) (s4 : SP 46 [Z (bs t).size] (Z k2)) : SP 11 [T t, ask g a m] (B true) := by
  refine S_ Try.func11 (by kernel_rfl) rfl (Nat.le_of_ble_eq_true rfl) ?_
  show avc Try.prog SP _ _ _ _ _ _
  dsimp only [avc, startS, Array.toList, Try.f11]
  repeat' ((try conv => whnf) <;> (first | (refine Hold.mk ?_) | (refine And.intro (fun _ => ?_) (fun h => Bool.noConfusion h)) | (refine And.intro (fun h => Bool.noConfusion h) (fun _ => ?_)) | (refine And.intro (Nat.le_of_ble_eq_true rfl) ?_) | (refine And.intro (fun _ => ?_) (fun h => Bool.noConfusion ((beq_self_eq_true _).symm.trans h))) | (refine And.intro (fun h => Bool.noConfusion ((bne_self_eq_false _).symm.trans h)) (fun _ => ?_)) | (refine And.intro (fun h => Bool.noConfusion ((beq_self_eq_true _).symm.trans h)) (fun _ => ?_)) | (refine And.intro (fun _ => ?_) (fun h => Bool.noConfusion ((bne_self_eq_false _).symm.trans h))) | (refine ⟨_, h1, ?_⟩) | (refine ⟨_, h2, ?_⟩) | (refine ⟨_, s1, ?_⟩) | (refine ⟨_, s2, ?_⟩) | (refine ⟨_, s3, ?_⟩) | (refine ⟨_, s4, ?_⟩) | (refine ⟨_, same_nn, ?_⟩) | (refine ⟨_, awake17_ok, ?_⟩) | (refine ⟨[], [0, 0, 3, 7, 15, 15, 63, 127, 255, 511, 1023, 2047, 511, 4607, 16383, 32767, 65535, 131071, 262143, 524287, 1048575, 262143, 2359295, 8388607, 16777215, 33554431, 67108863, 134217727, 268435455, 536870911], len_ok rfl (by kernel_rfl), ?_⟩) | (exact True.intro) | (refine And.intro (show eqT _ _ = true by kernel_rfl) ?_) | (refine And.intro rfl ?_) | (refine And.intro (And.intro (Nat.le_of_ble_eq_true rfl) rfl) ?_) | (refine And.intro (And.intro rfl (And.intro rfl rfl)) ?_) | (exact And.intro rfl (And.intro rfl rfl)) | (exact And.intro rfl rfl) | (refine br_lt ?_ ?_ <;> intro hBr <;> (first | (exfalso; omega) | (exfalso; contradiction) | (exfalso; exact hBr rfl) | skip)) | (refine br_lt_ ?_ ?_ <;> intro hBr <;> (first | (exfalso; omega) | (exfalso; contradiction) | (exfalso; exact hBr rfl) | skip)) | (refine br_le ?_ ?_ <;> intro hBr <;> (first | (exfalso; omega) | (exfalso; contradiction) | (exfalso; exact hBr rfl) | skip)) | (refine br_le_ ?_ ?_ <;> intro hBr <;> (first | (exfalso; omega) | (exfalso; contradiction) | (exfalso; exact hBr rfl) | skip)) | (refine br_eq ?_ ?_ <;> intro hBr <;> (first | (exfalso; omega) | (exfalso; contradiction) | (exfalso; exact hBr rfl) | skip)) | (refine br_eq_ ?_ ?_ <;> intro hBr <;> (first | (exfalso; omega) | (exfalso; contradiction) | (exfalso; exact hBr rfl) | skip)) | (refine br_seq ?_ ?_ <;> intro hBr <;> (first | (exfalso; omega) | (exfalso; contradiction) | (exfalso; exact hBr rfl) | skip)) | (refine br_seq_ ?_ ?_ <;> intro hBr <;> (first | (exfalso; omega) | (exfalso; contradiction) | (exfalso; exact hBr rfl) | skip)) | (refine br_not ?_) | (refine br_not_ ?_) | (refine br_and ?_) | (refine br_and_ ?_) | (refine And.intro (by omega) ?_) | (refine ⟨_, wrap_i64 (by omega), ?_⟩) | (refine ⟨_, wrap_u64 (by omega) (by omega), ?_⟩) | (refine ⟨_, wrap_u8 (by omega) (by omega), ?_⟩) | (refine ⟨_, wrap_u32 (by omega) (by omega), ?_⟩) | (refine ⟨_, wrap_u16 (by omega) (by omega), ?_⟩) | (refine ⟨_, rfl, ?_⟩) | (exact rfl)))
theorem lays_yes {k : Nat} {cs : List AV} {k1 k2 : Int} (h : (bs t).size ≤ 1500) (h1 : SP 43 [T t, U g, Z a, Z m] (.tup [.own 9 k cs, Z 0])) (h2 : SP 44 [T t, U g, Z a, Z m] (.tup [.own 9 k cs, Z 0])) (hs : SP 27 [.vs k cs, .vs k cs] (B true))
    (s1 : SP 45 [Z a] (Z k1)) (s2 : SP 46 [Z a] (Z k1)) (s3 : SP 45 [Z (bs t).size] (Z k2)) (s4 : SP 46 [Z (bs t).size] (Z k2)) : SP 11 [T t, ask g a m] (B true) := by
  refine S_ Try.func11 (by kernel_rfl) rfl (Nat.le_of_ble_eq_true rfl) ?_
  show avc Try.prog SP _ _ _ _ _ _
  dsimp only [avc, startS, Array.toList, Try.f11]
  repeat' ((try conv => whnf) <;> (first | (refine Hold.mk ?_) | (refine And.intro (fun _ => ?_) (fun h => Bool.noConfusion h)) | (refine And.intro (fun h => Bool.noConfusion h) (fun _ => ?_)) | (refine And.intro (Nat.le_of_ble_eq_true rfl) ?_) | (refine And.intro (fun _ => ?_) (fun h => Bool.noConfusion ((beq_self_eq_true _).symm.trans h))) | (refine And.intro (fun h => Bool.noConfusion ((bne_self_eq_false _).symm.trans h)) (fun _ => ?_)) | (refine And.intro (fun h => Bool.noConfusion ((beq_self_eq_true _).symm.trans h)) (fun _ => ?_)) | (refine And.intro (fun _ => ?_) (fun h => Bool.noConfusion ((bne_self_eq_false _).symm.trans h))) | (refine ⟨_, h1, ?_⟩) | (refine ⟨_, h2, ?_⟩) | (refine ⟨_, s1, ?_⟩) | (refine ⟨_, s2, ?_⟩) | (refine ⟨_, s3, ?_⟩) | (refine ⟨_, s4, ?_⟩) | (refine ⟨_, hs, ?_⟩) | (refine ⟨_, awake17_ok, ?_⟩) | (refine ⟨[], [0, 0, 3, 7, 15, 15, 63, 127, 255, 511, 1023, 2047, 511, 4607, 16383, 32767, 65535, 131071, 262143, 524287, 1048575, 262143, 2359295, 8388607, 16777215, 33554431, 67108863, 134217727, 268435455, 536870911], len_ok rfl (by kernel_rfl), ?_⟩) | (exact True.intro) | (refine And.intro (show eqT _ _ = true by kernel_rfl) ?_) | (refine And.intro rfl ?_) | (refine And.intro (And.intro (Nat.le_of_ble_eq_true rfl) rfl) ?_) | (refine And.intro (And.intro rfl (And.intro rfl rfl)) ?_) | (exact And.intro rfl (And.intro rfl rfl)) | (exact And.intro rfl rfl) | (refine br_lt ?_ ?_ <;> intro hBr <;> (first | (exfalso; omega) | (exfalso; contradiction) | (exfalso; exact hBr rfl) | skip)) | (refine br_lt_ ?_ ?_ <;> intro hBr <;> (first | (exfalso; omega) | (exfalso; contradiction) | (exfalso; exact hBr rfl) | skip)) | (refine br_le ?_ ?_ <;> intro hBr <;> (first | (exfalso; omega) | (exfalso; contradiction) | (exfalso; exact hBr rfl) | skip)) | (refine br_le_ ?_ ?_ <;> intro hBr <;> (first | (exfalso; omega) | (exfalso; contradiction) | (exfalso; exact hBr rfl) | skip)) | (refine br_eq ?_ ?_ <;> intro hBr <;> (first | (exfalso; omega) | (exfalso; contradiction) | (exfalso; exact hBr rfl) | skip)) | (refine br_eq_ ?_ ?_ <;> intro hBr <;> (first | (exfalso; omega) | (exfalso; contradiction) | (exfalso; exact hBr rfl) | skip)) | (refine br_seq ?_ ?_ <;> intro hBr <;> (first | (exfalso; omega) | (exfalso; contradiction) | (exfalso; exact hBr rfl) | skip)) | (refine br_seq_ ?_ ?_ <;> intro hBr <;> (first | (exfalso; omega) | (exfalso; contradiction) | (exfalso; exact hBr rfl) | skip)) | (refine br_not ?_) | (refine br_not_ ?_) | (refine br_and ?_) | (refine br_and_ ?_) | (refine And.intro (by omega) ?_) | (refine ⟨_, wrap_i64 (by omega), ?_⟩) | (refine ⟨_, wrap_u64 (by omega) (by omega), ?_⟩) | (refine ⟨_, wrap_u8 (by omega) (by omega), ?_⟩) | (refine ⟨_, wrap_u32 (by omega) (by omega), ?_⟩) | (refine ⟨_, wrap_u16 (by omega) (by omega), ?_⟩) | (refine ⟨_, rfl, ?_⟩) | (exact rfl)))
theorem lays_all (ha : a ≤ 9223372036854775807) : SP 11 [T t, ask g a m] (B true) := by
  by_cases h : 1500 < (bs t).size
  · exact lays_over h
  obtain ⟨k1, s1, s2⟩ := size_both a ha
  obtain ⟨k2, s3, s4⟩ := size_both ((bs t).size : Int) (by omega)
  by_cases hk : OkL t g a m
  · have hl : (layT t g a).length = npc (Quill.rowB t) := by simp [layT]
    have hn : npc (Quill.rowB t) ≤ 1000 := by
      have := rowB_len t
      have := hk.2.2.2.1
      unfold npc; omega
    have hs := same_vv (layT t g a) (layT t g a) (by omega) (by omega)
    rw [decide_eq_true rfl] at hs
    have hs' : SP 27 [.vs (npc (Quill.rowB t)) ((layT t g a).map T), .vs (npc (Quill.rowB t)) ((layT t g a).map T)] (B true) := by
      rw [← hl]; exact hs
    exact lays_yes (by omega) (lay_yes hk) (rlay_yes hk) hs' s1 s2 s3 s4
  · obtain ⟨e, _, h1, h2⟩ := lay_no hk
    exact lays_no (by omega) h1 h2 s1 s2 s3 s4
end
theorem cells_ask {cs : Array Value} (h : CellsOk [.int .u64, .int .i64, .int .i64] cs.toList) : ∃ (g : Nat) (a m : Int), g < 18446744073709551616 ∧ -9223372036854775808 ≤ a ∧ a ≤ 9223372036854775807 ∧ cs = #[.int .u64 g, .int .i64 a, .int .i64 m] := by
  obtain ⟨v0, r0, e0, ⟨k0, rfl, hk0⟩, hr0⟩ := h.cons_
  obtain ⟨v1, r1, e1, ⟨k1, rfl, hk1⟩, hr1⟩ := hr0.cons_
  obtain ⟨v2, r2, e2, ⟨k2, rfl, hk2⟩, hr2⟩ := hr1.cons_
  have e3 := hr2.empty_
  subst e3 e2 e1
  have b0 := bounds_u64 hk0
  have b1 := bounds_i64 hk1
  refine ⟨k0.toNat, k1, k2, by omega, by omega, by omega, ?_⟩
  rw [Int.toNat_of_nonneg b0.1]
  apply Array.ext'
  rw [e0]
theorem tapeLays_walk (t : List UInt8) (b : Array Value) (w : World) (ht : t.length ≤ 9223372036854775807) (hb : CellsOk [.int .u64, .int .i64, .int .i64] b.toList) :
    Calls Try.prog 11 #[.string (bs t), .agg b] w fun e w' => e = .returned (.bool true) ∧ Below w.heap.size w w' := by
  obtain ⟨g, a, m, h0, h1, h2, rfl⟩ := cells_ask hb
  refine calls_at (avs := [T t, ask g a m]) (lays_all h2) w (fun _ _ => False) (fun _ _ h => h.elim) _ rfl fun j hj => ?_
  match j, hj with
  | 0, _ => exact .ex _ _
  | 1, _ => exact .ex _ _
end Go.Proofs.Ytjfkfldlmhbnkaa.Av
