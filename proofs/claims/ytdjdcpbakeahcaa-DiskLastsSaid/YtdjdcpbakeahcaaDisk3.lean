/- disk: how much of a write a crash keeps; Crash, walked. No conditions but that lengths are what memory holds. -/
import Derived.Test.YtdjdcpbakeahcaaDisk2
import Derived.Laws.BitsAllLaws
namespace Go.Proofs.Ytdjdcpbakeahcaa.Av
open Go Go.RowKit
set_option linter.unusedVariables false
set_option linter.unusedSimpArgs false
set_option maxRecDepth 100000
set_option maxHeartbeats 1000000

structure Plan where
  keep : Nat
  torn : Int
  cut : Int
abbrev planA (p : Plan) : AV := .ex (.agg #[.int .u64 p.keep, .int .i64 p.torn, .int .i64 p.cut])
/-- is a bit 1? -/
def bitOf (k i : Nat) : Bool := decide (k / 2 ^ i % 2 = 1)
abbrev keptX (k i : Nat) : Int := IntKind.u64.wrap ((BitVec.ofInt IntKind.u64.bits ((k : Int).fdiv (2 ^ (min (i : Int).toNat IntKind.u64.bits))) &&& BitVec.ofInt IntKind.u64.bits 1).toNat : Int)
theorem keptX_eq (k i : Nat) (hk : k < 18446744073709551616) (hi : i < 64) : (keptX k i == 1) = bitOf k i := by
  have h1 : (k : Int).fdiv (2 ^ (min (i : Int).toNat IntKind.u64.bits)) = ((k / 2 ^ i : Nat) : Int) := by
    rw [Int.toNat_natCast, show min i IntKind.u64.bits = i from Nat.min_eq_left (by show i ≤ 64; omega), Int.fdiv_eq_ediv_of_nonneg _ (by exact Int.pow_nonneg (by omega))]
    rw [Int.natCast_ediv, Int.natCast_pow]; rfl
  have h2 : k / 2 ^ i < 18446744073709551616 := Nat.lt_of_le_of_lt (Nat.div_le_self _ _) hk
  unfold keptX
  rw [h1]
  unfold bitOf
  generalize k / 2 ^ i = m at h2 ⊢
  have e1 : (BitVec.ofInt IntKind.u64.bits ((m : Nat) : Int) &&& BitVec.ofInt IntKind.u64.bits 1).toNat = m % 2 := by
    rw [BitVec.toNat_and, BitVec.toNat_ofInt, BitVec.toNat_ofInt]
    show (((m : Int) % 18446744073709551616).toNat &&& ((1 : Int) % 18446744073709551616).toNat) = m % 2
    rw [show ((m : Int) % 18446744073709551616).toNat = m by omega, show ((1 : Int) % 18446744073709551616).toNat = 1 by decide, Nat.and_one_is_mod]
  have e2 : IntKind.u64.wrap ((m % 2 : Nat) : Int) = ((m % 2 : Nat) : Int) := wrap_u64 (by omega) (by omega)
  rw [e1, e2]
  rw [Bool.eq_iff_iff, beq_iff_eq]
  show _ ↔ decide (m % 2 = 1) = true
  rw [decide_eq_true_iff]
  omega
def clampI (cut : Int) : Int := if (if 64 < cut then 64 else cut) > 0 then (if 64 < cut then 64 else cut) else 0
def frontI (p : Plan) (i : Nat) : Int := if (i : Int) = p.torn then clampI p.cut else if i < 64 then (if bitOf p.keep i = true then 64 else 0) else 0
theorem clampI_in (c : Int) : 0 ≤ clampI c ∧ clampI c ≤ 64 := by
  unfold clampI
  split <;> split <;> omega
theorem frontI_in (p : Plan) (i : Nat) : 0 ≤ frontI p i ∧ frontI p i ≤ 64 := by
  unfold frontI
  split
  · exact clampI_in _
  · split
    · split <;> omega
    · omega
theorem front_raw (k : Nat) (t c : Int) (i : Nat) (hk : k < 18446744073709551616) : SP 75 [.ex (.agg #[.int .u64 k, .int .i64 t, .int .i64 c]), Z i] (Z (frontI ⟨k, t, c⟩ i)) := by
  by_cases h1 : (i : Int) = t
  · rw [show frontI ⟨k, t, c⟩ i = clampI c from if_pos h1]
    unfold clampI
    refine S_ Try.func75 (by kernel_rfl) rfl (Nat.le_of_ble_eq_true rfl) ?_
    show avc Try.prog SP _ _ _ _ _ _
    dsimp only [avc, startS, Array.toList, Try.f75]
    repeat' ((try conv => whnf) <;> (first | (refine Hold.mk ?_) | (refine And.intro (fun _ => ?_) (fun h => Bool.noConfusion h)) | (refine And.intro (fun h => Bool.noConfusion h) (fun _ => ?_)) | (refine And.intro (Nat.le_of_ble_eq_true rfl) ?_) | (refine And.intro (fun _ => ?_) (fun h => Bool.noConfusion ((beq_self_eq_true _).symm.trans h))) | (refine And.intro (fun h => Bool.noConfusion ((bne_self_eq_false _).symm.trans h)) (fun _ => ?_)) | (refine And.intro (fun h => Bool.noConfusion ((beq_self_eq_true _).symm.trans h)) (fun _ => ?_)) | (refine And.intro (fun _ => ?_) (fun h => Bool.noConfusion ((bne_self_eq_false _).symm.trans h))) | (refine And.intro (show inR _ from ⟨by omega, by omega⟩) ?_) | (exact True.intro) | (refine And.intro (show eqT _ _ = true by kernel_rfl) ?_) | (refine And.intro rfl ?_) | (refine And.intro (And.intro (Nat.le_of_ble_eq_true rfl) rfl) ?_) | (refine And.intro (And.intro rfl rfl) ?_) | (refine And.intro (And.intro rfl (And.intro rfl rfl)) ?_) | (exact And.intro rfl (And.intro rfl rfl)) | (exact And.intro rfl rfl) | (refine br_lt ?_ ?_ <;> intro hBr <;> (first | (exfalso; omega) | (exfalso; contradiction) | (exfalso; exact hBr rfl) | skip)) | (refine br_lt_ ?_ ?_ <;> intro hBr <;> (first | (exfalso; omega) | (exfalso; contradiction) | (exfalso; exact hBr rfl) | skip)) | (refine br_le ?_ ?_ <;> intro hBr <;> (first | (exfalso; omega) | (exfalso; contradiction) | (exfalso; exact hBr rfl) | skip)) | (refine br_le_ ?_ ?_ <;> intro hBr <;> (first | (exfalso; omega) | (exfalso; contradiction) | (exfalso; exact hBr rfl) | skip)) | (refine br_eq ?_ ?_ <;> intro hBr <;> (first | (exfalso; omega) | (exfalso; contradiction) | (exfalso; exact hBr rfl) | skip)) | (refine br_eq_ ?_ ?_ <;> intro hBr <;> (first | (exfalso; omega) | (exfalso; contradiction) | (exfalso; exact hBr rfl) | skip)) | (refine br_seq ?_ ?_ <;> intro hBr <;> (first | (exfalso; omega) | (exfalso; contradiction) | (exfalso; exact hBr rfl) | skip)) | (refine br_seq_ ?_ ?_ <;> intro hBr <;> (first | (exfalso; omega) | (exfalso; contradiction) | (exfalso; exact hBr rfl) | skip)) | (refine br_not ?_) | (refine br_not_ ?_) | (refine br_and ?_) | (refine br_and_ ?_) | (refine And.intro (by omega) ?_) | (refine ⟨_, wrap_i64 (by omega), ?_⟩) | (refine ⟨_, wrap_u64 (by omega) (by omega), ?_⟩) | (refine ⟨_, wrap_u8 (by omega) (by omega), ?_⟩) | (refine ⟨_, wrap_u32 (by omega) (by omega), ?_⟩) | (refine ⟨_, wrap_u16 (by omega) (by omega), ?_⟩) | (refine ⟨_, rfl, ?_⟩) | (exact rfl)))
  by_cases h2 : i < 64
  · have hx := keptX_eq k i hk h2
    have h2' : (i : Int) < 64 := by omega
    by_cases h3 : bitOf k i = true
    · rw [show frontI ⟨k, t, c⟩ i = 64 from (if_neg h1).trans ((if_pos h2).trans (if_pos h3))]
      rw [h3] at hx
      have hx : keptX k i = 1 := by simpa using hx
      refine S_ Try.func75 (by kernel_rfl) rfl (Nat.le_of_ble_eq_true rfl) ?_
      show avc Try.prog SP _ _ _ _ _ _
      dsimp only [avc, startS, Array.toList, Try.f75]
      repeat' ((try conv => whnf) <;> (first | (refine Hold.mk ?_) | (refine And.intro (fun _ => ?_) (fun h => Bool.noConfusion h)) | (refine And.intro (fun h => Bool.noConfusion h) (fun _ => ?_)) | (refine And.intro (Nat.le_of_ble_eq_true rfl) ?_) | (refine And.intro (fun _ => ?_) (fun h => Bool.noConfusion ((beq_self_eq_true _).symm.trans h))) | (refine And.intro (fun h => Bool.noConfusion ((bne_self_eq_false _).symm.trans h)) (fun _ => ?_)) | (refine And.intro (fun h => Bool.noConfusion ((beq_self_eq_true _).symm.trans h)) (fun _ => ?_)) | (refine And.intro (fun _ => ?_) (fun h => Bool.noConfusion ((bne_self_eq_false _).symm.trans h))) | (refine And.intro (show inR _ from ⟨by omega, by omega⟩) ?_) | (exact True.intro) | (refine And.intro (show eqT _ _ = true by kernel_rfl) ?_) | (refine And.intro rfl ?_) | (refine And.intro (And.intro (Nat.le_of_ble_eq_true rfl) rfl) ?_) | (refine And.intro (And.intro rfl rfl) ?_) | (refine And.intro (And.intro rfl (And.intro rfl rfl)) ?_) | (exact And.intro rfl (And.intro rfl rfl)) | (exact And.intro rfl rfl) | (refine br_lt ?_ ?_ <;> intro hBr <;> (first | (exfalso; omega) | (exfalso; contradiction) | (exfalso; exact hBr rfl) | skip)) | (refine br_lt_ ?_ ?_ <;> intro hBr <;> (first | (exfalso; omega) | (exfalso; contradiction) | (exfalso; exact hBr rfl) | skip)) | (refine br_le ?_ ?_ <;> intro hBr <;> (first | (exfalso; omega) | (exfalso; contradiction) | (exfalso; exact hBr rfl) | skip)) | (refine br_le_ ?_ ?_ <;> intro hBr <;> (first | (exfalso; omega) | (exfalso; contradiction) | (exfalso; exact hBr rfl) | skip)) | (refine br_eq ?_ ?_ <;> intro hBr <;> (first | (exfalso; omega) | (exfalso; contradiction) | (exfalso; exact hBr rfl) | skip)) | (refine br_eq_ ?_ ?_ <;> intro hBr <;> (first | (exfalso; omega) | (exfalso; contradiction) | (exfalso; exact hBr rfl) | skip)) | (refine br_seq ?_ ?_ <;> intro hBr <;> (first | (exfalso; omega) | (exfalso; contradiction) | (exfalso; exact hBr rfl) | skip)) | (refine br_seq_ ?_ ?_ <;> intro hBr <;> (first | (exfalso; omega) | (exfalso; contradiction) | (exfalso; exact hBr rfl) | skip)) | (refine br_not ?_) | (refine br_not_ ?_) | (refine br_and ?_) | (refine br_and_ ?_) | (refine And.intro (by omega) ?_) | (refine ⟨_, wrap_i64 (by omega), ?_⟩) | (refine ⟨_, wrap_u64 (by omega) (by omega), ?_⟩) | (refine ⟨_, wrap_u8 (by omega) (by omega), ?_⟩) | (refine ⟨_, wrap_u32 (by omega) (by omega), ?_⟩) | (refine ⟨_, wrap_u16 (by omega) (by omega), ?_⟩) | (refine ⟨_, rfl, ?_⟩) | (exact rfl)))
    · rw [show frontI ⟨k, t, c⟩ i = 0 from (if_neg h1).trans ((if_pos h2).trans (if_neg h3))]
      rw [show bitOf k i = false by simpa using h3] at hx
      have hx : ¬ keptX k i = 1 := by simpa using hx
      refine S_ Try.func75 (by kernel_rfl) rfl (Nat.le_of_ble_eq_true rfl) ?_
      show avc Try.prog SP _ _ _ _ _ _
      dsimp only [avc, startS, Array.toList, Try.f75]
      repeat' ((try conv => whnf) <;> (first | (refine Hold.mk ?_) | (refine And.intro (fun _ => ?_) (fun h => Bool.noConfusion h)) | (refine And.intro (fun h => Bool.noConfusion h) (fun _ => ?_)) | (refine And.intro (Nat.le_of_ble_eq_true rfl) ?_) | (refine And.intro (fun _ => ?_) (fun h => Bool.noConfusion ((beq_self_eq_true _).symm.trans h))) | (refine And.intro (fun h => Bool.noConfusion ((bne_self_eq_false _).symm.trans h)) (fun _ => ?_)) | (refine And.intro (fun h => Bool.noConfusion ((beq_self_eq_true _).symm.trans h)) (fun _ => ?_)) | (refine And.intro (fun _ => ?_) (fun h => Bool.noConfusion ((bne_self_eq_false _).symm.trans h))) | (refine And.intro (show inR _ from ⟨by omega, by omega⟩) ?_) | (exact True.intro) | (refine And.intro (show eqT _ _ = true by kernel_rfl) ?_) | (refine And.intro rfl ?_) | (refine And.intro (And.intro (Nat.le_of_ble_eq_true rfl) rfl) ?_) | (refine And.intro (And.intro rfl rfl) ?_) | (refine And.intro (And.intro rfl (And.intro rfl rfl)) ?_) | (exact And.intro rfl (And.intro rfl rfl)) | (exact And.intro rfl rfl) | (refine br_lt ?_ ?_ <;> intro hBr <;> (first | (exfalso; omega) | (exfalso; contradiction) | (exfalso; exact hBr rfl) | skip)) | (refine br_lt_ ?_ ?_ <;> intro hBr <;> (first | (exfalso; omega) | (exfalso; contradiction) | (exfalso; exact hBr rfl) | skip)) | (refine br_le ?_ ?_ <;> intro hBr <;> (first | (exfalso; omega) | (exfalso; contradiction) | (exfalso; exact hBr rfl) | skip)) | (refine br_le_ ?_ ?_ <;> intro hBr <;> (first | (exfalso; omega) | (exfalso; contradiction) | (exfalso; exact hBr rfl) | skip)) | (refine br_eq ?_ ?_ <;> intro hBr <;> (first | (exfalso; omega) | (exfalso; contradiction) | (exfalso; exact hBr rfl) | skip)) | (refine br_eq_ ?_ ?_ <;> intro hBr <;> (first | (exfalso; omega) | (exfalso; contradiction) | (exfalso; exact hBr rfl) | skip)) | (refine br_seq ?_ ?_ <;> intro hBr <;> (first | (exfalso; omega) | (exfalso; contradiction) | (exfalso; exact hBr rfl) | skip)) | (refine br_seq_ ?_ ?_ <;> intro hBr <;> (first | (exfalso; omega) | (exfalso; contradiction) | (exfalso; exact hBr rfl) | skip)) | (refine br_not ?_) | (refine br_not_ ?_) | (refine br_and ?_) | (refine br_and_ ?_) | (refine And.intro (by omega) ?_) | (refine ⟨_, wrap_i64 (by omega), ?_⟩) | (refine ⟨_, wrap_u64 (by omega) (by omega), ?_⟩) | (refine ⟨_, wrap_u8 (by omega) (by omega), ?_⟩) | (refine ⟨_, wrap_u32 (by omega) (by omega), ?_⟩) | (refine ⟨_, wrap_u16 (by omega) (by omega), ?_⟩) | (refine ⟨_, rfl, ?_⟩) | (exact rfl)))
  · rw [show frontI ⟨k, t, c⟩ i = 0 from (if_neg h1).trans (if_neg h2)]
    have h2' : ¬ (i : Int) < 64 := by omega
    refine S_ Try.func75 (by kernel_rfl) rfl (Nat.le_of_ble_eq_true rfl) ?_
    show avc Try.prog SP _ _ _ _ _ _
    dsimp only [avc, startS, Array.toList, Try.f75]
    repeat' ((try conv => whnf) <;> (first | (refine Hold.mk ?_) | (refine And.intro (fun _ => ?_) (fun h => Bool.noConfusion h)) | (refine And.intro (fun h => Bool.noConfusion h) (fun _ => ?_)) | (refine And.intro (Nat.le_of_ble_eq_true rfl) ?_) | (refine And.intro (fun _ => ?_) (fun h => Bool.noConfusion ((beq_self_eq_true _).symm.trans h))) | (refine And.intro (fun h => Bool.noConfusion ((bne_self_eq_false _).symm.trans h)) (fun _ => ?_)) | (refine And.intro (fun h => Bool.noConfusion ((beq_self_eq_true _).symm.trans h)) (fun _ => ?_)) | (refine And.intro (fun _ => ?_) (fun h => Bool.noConfusion ((bne_self_eq_false _).symm.trans h))) | (refine And.intro (show inR _ from ⟨by omega, by omega⟩) ?_) | (exact True.intro) | (refine And.intro (show eqT _ _ = true by kernel_rfl) ?_) | (refine And.intro rfl ?_) | (refine And.intro (And.intro (Nat.le_of_ble_eq_true rfl) rfl) ?_) | (refine And.intro (And.intro rfl rfl) ?_) | (refine And.intro (And.intro rfl (And.intro rfl rfl)) ?_) | (exact And.intro rfl (And.intro rfl rfl)) | (exact And.intro rfl rfl) | (refine br_lt ?_ ?_ <;> intro hBr <;> (first | (exfalso; omega) | (exfalso; contradiction) | (exfalso; exact hBr rfl) | skip)) | (refine br_lt_ ?_ ?_ <;> intro hBr <;> (first | (exfalso; omega) | (exfalso; contradiction) | (exfalso; exact hBr rfl) | skip)) | (refine br_le ?_ ?_ <;> intro hBr <;> (first | (exfalso; omega) | (exfalso; contradiction) | (exfalso; exact hBr rfl) | skip)) | (refine br_le_ ?_ ?_ <;> intro hBr <;> (first | (exfalso; omega) | (exfalso; contradiction) | (exfalso; exact hBr rfl) | skip)) | (refine br_eq ?_ ?_ <;> intro hBr <;> (first | (exfalso; omega) | (exfalso; contradiction) | (exfalso; exact hBr rfl) | skip)) | (refine br_eq_ ?_ ?_ <;> intro hBr <;> (first | (exfalso; omega) | (exfalso; contradiction) | (exfalso; exact hBr rfl) | skip)) | (refine br_seq ?_ ?_ <;> intro hBr <;> (first | (exfalso; omega) | (exfalso; contradiction) | (exfalso; exact hBr rfl) | skip)) | (refine br_seq_ ?_ ?_ <;> intro hBr <;> (first | (exfalso; omega) | (exfalso; contradiction) | (exfalso; exact hBr rfl) | skip)) | (refine br_not ?_) | (refine br_not_ ?_) | (refine br_and ?_) | (refine br_and_ ?_) | (refine And.intro (by omega) ?_) | (refine ⟨_, wrap_i64 (by omega), ?_⟩) | (refine ⟨_, wrap_u64 (by omega) (by omega), ?_⟩) | (refine ⟨_, wrap_u8 (by omega) (by omega), ?_⟩) | (refine ⟨_, wrap_u32 (by omega) (by omega), ?_⟩) | (refine ⟨_, wrap_u16 (by omega) (by omega), ?_⟩) | (refine ⟨_, rfl, ?_⟩) | (exact rfl)))
theorem front_ok (p : Plan) (i : Nat) (hk : p.keep < 18446744073709551616) : SP 75 [planA p, Z i] (Z (frontI p i)) := front_raw p.keep p.torn p.cut i hk
end Go.Proofs.Ytdjdcpbakeahcaa.Av
