/- tape: whether texts are few, walked. No conditions. -/
import Derived.Test.YtjfkfldlmhbnkaaTape13
import Derived.Test.YtjfkfldlmhbnkaaStamp12
namespace Go.Proofs.Ytjfkfldlmhbnkaa.Av
set_option maxHeartbeats 1000000
open Go Go.RowKit
set_option linter.unusedVariables false
set_option linter.unusedSimpArgs false
set_option maxRecDepth 100000

theorem atI_T {L : List (List UInt8)} {i : Nat} (h : i < L.length) : (L.map T)[mulS (i : Int).toNat (sizeT Try.prog 9)]? = some (T L[i]) := by
  rw [hs1', mulS_eq, Nat.mul_one, Int.toNat_natCast, List.getElem?_map, List.getElem?_eq_getElem h]; rfl
theorem few_loop (L : List (List UInt8)) (r : Bool) (hL : L.length ≤ 9223372036854775807) (h : (∀ i (h : i < L.length), 1 ≤ (bs L[i]).size ∧ (bs L[i]).size ≤ 200) ∧ r = decide ((L.length : Int) ≤ 12) ∨ (∃ i, ∃ h : i < L.length, ((bs L[i]).size < 1 ∨ 200 < (bs L[i]).size) ∧ ∀ j (h : j < L.length), j < i → 1 ≤ (bs L[j]).size ∧ (bs L[j]).size ≤ 200) ∧ r = false) :
    SP 51 [.vs L.length (L.map T)] (B r) := by
  rcases h with ⟨h, rfl⟩ | ⟨⟨k, hk, hbad, hgood⟩, rfl⟩
  · refine S_ Try.func51 (by kernel_rfl) rfl (Nat.le_of_ble_eq_true rfl) ?_ -- G
    repeat' ((try conv => whnf) <;> (first | (refine Hold.mk ?_) | (refine And.intro (fun _ => ?_) (fun h => Bool.noConfusion h)) | (refine And.intro (fun h => Bool.noConfusion h) (fun _ => ?_)) | (refine And.intro (Nat.le_of_ble_eq_true rfl) ?_) | (refine And.intro (fun _ => ?_) (fun h => Bool.noConfusion ((beq_self_eq_true _).symm.trans h))) | (refine And.intro (fun h => Bool.noConfusion ((bne_self_eq_false _).symm.trans h)) (fun _ => ?_)) | (refine And.intro (fun h => Bool.noConfusion ((beq_self_eq_true _).symm.trans h)) (fun _ => ?_)) | (refine And.intro (fun _ => ?_) (fun h => Bool.noConfusion ((bne_self_eq_false _).symm.trans h))) | (exact True.intro) | (refine And.intro (show eqT _ _ = true by kernel_rfl) ?_) | (refine And.intro rfl ?_) | (refine And.intro (And.intro (Nat.le_of_ble_eq_true rfl) rfl) ?_) | (refine And.intro (And.intro rfl (And.intro rfl rfl)) ?_) | (exact And.intro rfl (And.intro rfl rfl)) | (exact And.intro rfl rfl) | (refine br_lt ?_ ?_ <;> intro hBr <;> (first | (exfalso; omega) | (exfalso; contradiction) | (exfalso; exact hBr rfl) | skip)) | (refine br_lt_ ?_ ?_ <;> intro hBr <;> (first | (exfalso; omega) | (exfalso; contradiction) | (exfalso; exact hBr rfl) | skip)) | (refine br_le ?_ ?_ <;> intro hBr <;> (first | (exfalso; omega) | (exfalso; contradiction) | (exfalso; exact hBr rfl) | skip)) | (refine br_le_ ?_ ?_ <;> intro hBr <;> (first | (exfalso; omega) | (exfalso; contradiction) | (exfalso; exact hBr rfl) | skip)) | (refine br_eq ?_ ?_ <;> intro hBr <;> (first | (exfalso; omega) | (exfalso; contradiction) | (exfalso; exact hBr rfl) | skip)) | (refine br_eq_ ?_ ?_ <;> intro hBr <;> (first | (exfalso; omega) | (exfalso; contradiction) | (exfalso; exact hBr rfl) | skip)) | (refine br_seq ?_ ?_ <;> intro hBr <;> (first | (exfalso; omega) | (exfalso; contradiction) | (exfalso; exact hBr rfl) | skip)) | (refine br_seq_ ?_ ?_ <;> intro hBr <;> (first | (exfalso; omega) | (exfalso; contradiction) | (exfalso; exact hBr rfl) | skip)) | (refine br_not ?_) | (refine br_not_ ?_) | (refine br_and ?_) | (refine br_and_ ?_) | (refine And.intro (by omega) ?_) | (refine ⟨_, wrap_i64 (by omega), ?_⟩) | (refine ⟨_, wrap_u64 (by omega) (by omega), ?_⟩) | (refine ⟨_, wrap_u8 (by omega) (by omega), ?_⟩) | (refine ⟨_, wrap_u32 (by omega) (by omega), ?_⟩) | (refine ⟨_, wrap_u16 (by omega) (by omega), ?_⟩) | (refine ⟨_, rfl, ?_⟩) | (exact rfl)))
    refine ⟨[3, 0], [], fun vs bl => ∃ i : Nat, i ≤ L.length ∧ (vs = [Z i, .vs L.length (L.map T)] ∧ bl = []), fun vs bl => match vs with | [.ex (.int _ i), _] => L.length - i.toNat | _ => 0, ?_, ?_⟩
    · exact ⟨0, by omega, rfl, rfl⟩
    rintro vs bl ⟨i, hi, rfl, rfl⟩
    by_cases hlt : i < L.length
    · have hat := atI_T hlt
      have hs := h i hlt
      clear h
      repeat' ((try conv => whnf) <;> (first | (refine Hold.mk ?_) | (refine And.intro (fun _ => ?_) (fun h => Bool.noConfusion h)) | (refine And.intro (fun h => Bool.noConfusion h) (fun _ => ?_)) | (refine And.intro (Nat.le_of_ble_eq_true rfl) ?_) | (refine And.intro (fun _ => ?_) (fun h => Bool.noConfusion ((beq_self_eq_true _).symm.trans h))) | (refine And.intro (fun h => Bool.noConfusion ((bne_self_eq_false _).symm.trans h)) (fun _ => ?_)) | (refine And.intro (fun h => Bool.noConfusion ((beq_self_eq_true _).symm.trans h)) (fun _ => ?_)) | (refine And.intro (fun _ => ?_) (fun h => Bool.noConfusion ((bne_self_eq_false _).symm.trans h))) | (refine ⟨_, hat, ?_⟩) | (exact True.intro) | (refine And.intro (show eqT _ _ = true by kernel_rfl) ?_) | (refine And.intro rfl ?_) | (refine And.intro (And.intro (Nat.le_of_ble_eq_true rfl) rfl) ?_) | (refine And.intro (And.intro rfl (And.intro rfl rfl)) ?_) | (exact And.intro rfl (And.intro rfl rfl)) | (exact And.intro rfl rfl) | (refine br_lt ?_ ?_ <;> intro hBr <;> (first | (exfalso; omega) | (exfalso; contradiction) | (exfalso; exact hBr rfl) | skip)) | (refine br_lt_ ?_ ?_ <;> intro hBr <;> (first | (exfalso; omega) | (exfalso; contradiction) | (exfalso; exact hBr rfl) | skip)) | (refine br_le ?_ ?_ <;> intro hBr <;> (first | (exfalso; omega) | (exfalso; contradiction) | (exfalso; exact hBr rfl) | skip)) | (refine br_le_ ?_ ?_ <;> intro hBr <;> (first | (exfalso; omega) | (exfalso; contradiction) | (exfalso; exact hBr rfl) | skip)) | (refine br_eq ?_ ?_ <;> intro hBr <;> (first | (exfalso; omega) | (exfalso; contradiction) | (exfalso; exact hBr rfl) | skip)) | (refine br_eq_ ?_ ?_ <;> intro hBr <;> (first | (exfalso; omega) | (exfalso; contradiction) | (exfalso; exact hBr rfl) | skip)) | (refine br_seq ?_ ?_ <;> intro hBr <;> (first | (exfalso; omega) | (exfalso; contradiction) | (exfalso; exact hBr rfl) | skip)) | (refine br_seq_ ?_ ?_ <;> intro hBr <;> (first | (exfalso; omega) | (exfalso; contradiction) | (exfalso; exact hBr rfl) | skip)) | (refine br_not ?_) | (refine br_not_ ?_) | (refine br_and ?_) | (refine br_and_ ?_) | (refine And.intro (by omega) ?_) | (refine ⟨_, wrap_i64 (by omega), ?_⟩) | (refine ⟨_, wrap_u64 (by omega) (by omega), ?_⟩) | (refine ⟨_, wrap_u8 (by omega) (by omega), ?_⟩) | (refine ⟨_, wrap_u32 (by omega) (by omega), ?_⟩) | (refine ⟨_, wrap_u16 (by omega) (by omega), ?_⟩) | (refine ⟨_, rfl, ?_⟩) | (exact rfl)))
      exact ⟨⟨i + 1, by omega, rfl, rfl⟩, (by simp only [Int.toNat_natCast]; show L.length - ((i : Int) + 1).toNat < _; omega)⟩
    · clear h
      repeat' ((try conv => whnf) <;> (first | (refine Hold.mk ?_) | (refine And.intro (fun _ => ?_) (fun h => Bool.noConfusion h)) | (refine And.intro (fun h => Bool.noConfusion h) (fun _ => ?_)) | (refine And.intro (Nat.le_of_ble_eq_true rfl) ?_) | (refine And.intro (fun _ => ?_) (fun h => Bool.noConfusion ((beq_self_eq_true _).symm.trans h))) | (refine And.intro (fun h => Bool.noConfusion ((bne_self_eq_false _).symm.trans h)) (fun _ => ?_)) | (refine And.intro (fun h => Bool.noConfusion ((beq_self_eq_true _).symm.trans h)) (fun _ => ?_)) | (refine And.intro (fun _ => ?_) (fun h => Bool.noConfusion ((bne_self_eq_false _).symm.trans h))) | (exact True.intro) | (refine And.intro (show eqT _ _ = true by kernel_rfl) ?_) | (refine And.intro rfl ?_) | (refine And.intro (And.intro (Nat.le_of_ble_eq_true rfl) rfl) ?_) | (refine And.intro (And.intro rfl (And.intro rfl rfl)) ?_) | (exact And.intro rfl (And.intro rfl rfl)) | (exact And.intro rfl rfl) | (refine br_lt ?_ ?_ <;> intro hBr <;> (first | (exfalso; omega) | (exfalso; contradiction) | (exfalso; exact hBr rfl) | skip)) | (refine br_lt_ ?_ ?_ <;> intro hBr <;> (first | (exfalso; omega) | (exfalso; contradiction) | (exfalso; exact hBr rfl) | skip)) | (refine br_le ?_ ?_ <;> intro hBr <;> (first | (exfalso; omega) | (exfalso; contradiction) | (exfalso; exact hBr rfl) | skip)) | (refine br_le_ ?_ ?_ <;> intro hBr <;> (first | (exfalso; omega) | (exfalso; contradiction) | (exfalso; exact hBr rfl) | skip)) | (refine br_eq ?_ ?_ <;> intro hBr <;> (first | (exfalso; omega) | (exfalso; contradiction) | (exfalso; exact hBr rfl) | skip)) | (refine br_eq_ ?_ ?_ <;> intro hBr <;> (first | (exfalso; omega) | (exfalso; contradiction) | (exfalso; exact hBr rfl) | skip)) | (refine br_seq ?_ ?_ <;> intro hBr <;> (first | (exfalso; omega) | (exfalso; contradiction) | (exfalso; exact hBr rfl) | skip)) | (refine br_seq_ ?_ ?_ <;> intro hBr <;> (first | (exfalso; omega) | (exfalso; contradiction) | (exfalso; exact hBr rfl) | skip)) | (refine br_not ?_) | (refine br_not_ ?_) | (refine br_and ?_) | (refine br_and_ ?_) | (refine And.intro (by omega) ?_) | (refine ⟨_, wrap_i64 (by omega), ?_⟩) | (refine ⟨_, wrap_u64 (by omega) (by omega), ?_⟩) | (refine ⟨_, wrap_u8 (by omega) (by omega), ?_⟩) | (refine ⟨_, wrap_u32 (by omega) (by omega), ?_⟩) | (refine ⟨_, wrap_u16 (by omega) (by omega), ?_⟩) | (refine ⟨_, rfl, ?_⟩) | (exact rfl)))
  · refine S_ Try.func51 (by kernel_rfl) rfl (Nat.le_of_ble_eq_true rfl) ?_ -- G
    repeat' ((try conv => whnf) <;> (first | (refine Hold.mk ?_) | (refine And.intro (fun _ => ?_) (fun h => Bool.noConfusion h)) | (refine And.intro (fun h => Bool.noConfusion h) (fun _ => ?_)) | (refine And.intro (Nat.le_of_ble_eq_true rfl) ?_) | (refine And.intro (fun _ => ?_) (fun h => Bool.noConfusion ((beq_self_eq_true _).symm.trans h))) | (refine And.intro (fun h => Bool.noConfusion ((bne_self_eq_false _).symm.trans h)) (fun _ => ?_)) | (refine And.intro (fun h => Bool.noConfusion ((beq_self_eq_true _).symm.trans h)) (fun _ => ?_)) | (refine And.intro (fun _ => ?_) (fun h => Bool.noConfusion ((bne_self_eq_false _).symm.trans h))) | (exact True.intro) | (refine And.intro (show eqT _ _ = true by kernel_rfl) ?_) | (refine And.intro rfl ?_) | (refine And.intro (And.intro (Nat.le_of_ble_eq_true rfl) rfl) ?_) | (refine And.intro (And.intro rfl (And.intro rfl rfl)) ?_) | (exact And.intro rfl (And.intro rfl rfl)) | (exact And.intro rfl rfl) | (refine br_lt ?_ ?_ <;> intro hBr <;> (first | (exfalso; omega) | (exfalso; contradiction) | (exfalso; exact hBr rfl) | skip)) | (refine br_lt_ ?_ ?_ <;> intro hBr <;> (first | (exfalso; omega) | (exfalso; contradiction) | (exfalso; exact hBr rfl) | skip)) | (refine br_le ?_ ?_ <;> intro hBr <;> (first | (exfalso; omega) | (exfalso; contradiction) | (exfalso; exact hBr rfl) | skip)) | (refine br_le_ ?_ ?_ <;> intro hBr <;> (first | (exfalso; omega) | (exfalso; contradiction) | (exfalso; exact hBr rfl) | skip)) | (refine br_eq ?_ ?_ <;> intro hBr <;> (first | (exfalso; omega) | (exfalso; contradiction) | (exfalso; exact hBr rfl) | skip)) | (refine br_eq_ ?_ ?_ <;> intro hBr <;> (first | (exfalso; omega) | (exfalso; contradiction) | (exfalso; exact hBr rfl) | skip)) | (refine br_seq ?_ ?_ <;> intro hBr <;> (first | (exfalso; omega) | (exfalso; contradiction) | (exfalso; exact hBr rfl) | skip)) | (refine br_seq_ ?_ ?_ <;> intro hBr <;> (first | (exfalso; omega) | (exfalso; contradiction) | (exfalso; exact hBr rfl) | skip)) | (refine br_not ?_) | (refine br_not_ ?_) | (refine br_and ?_) | (refine br_and_ ?_) | (refine And.intro (by omega) ?_) | (refine ⟨_, wrap_i64 (by omega), ?_⟩) | (refine ⟨_, wrap_u64 (by omega) (by omega), ?_⟩) | (refine ⟨_, wrap_u8 (by omega) (by omega), ?_⟩) | (refine ⟨_, wrap_u32 (by omega) (by omega), ?_⟩) | (refine ⟨_, wrap_u16 (by omega) (by omega), ?_⟩) | (refine ⟨_, rfl, ?_⟩) | (exact rfl)))
    refine ⟨[3, 0], [], fun vs bl => ∃ i : Nat, i ≤ k ∧ (vs = [Z i, .vs L.length (L.map T)] ∧ bl = []), fun vs bl => match vs with | [.ex (.int _ i), _] => L.length - i.toNat | _ => 0, ?_, ?_⟩
    · exact ⟨0, by omega, rfl, rfl⟩
    rintro vs bl ⟨i, hi, rfl, rfl⟩
    have hil : i < L.length := by omega
    have hat := atI_T hil
    by_cases hlt : i < k
    · have hs := hgood i hil hlt
      clear hgood hbad
      repeat' ((try conv => whnf) <;> (first | (refine Hold.mk ?_) | (refine And.intro (fun _ => ?_) (fun h => Bool.noConfusion h)) | (refine And.intro (fun h => Bool.noConfusion h) (fun _ => ?_)) | (refine And.intro (Nat.le_of_ble_eq_true rfl) ?_) | (refine And.intro (fun _ => ?_) (fun h => Bool.noConfusion ((beq_self_eq_true _).symm.trans h))) | (refine And.intro (fun h => Bool.noConfusion ((bne_self_eq_false _).symm.trans h)) (fun _ => ?_)) | (refine And.intro (fun h => Bool.noConfusion ((beq_self_eq_true _).symm.trans h)) (fun _ => ?_)) | (refine And.intro (fun _ => ?_) (fun h => Bool.noConfusion ((bne_self_eq_false _).symm.trans h))) | (refine ⟨_, hat, ?_⟩) | (exact True.intro) | (refine And.intro (show eqT _ _ = true by kernel_rfl) ?_) | (refine And.intro rfl ?_) | (refine And.intro (And.intro (Nat.le_of_ble_eq_true rfl) rfl) ?_) | (refine And.intro (And.intro rfl (And.intro rfl rfl)) ?_) | (exact And.intro rfl (And.intro rfl rfl)) | (exact And.intro rfl rfl) | (refine br_lt ?_ ?_ <;> intro hBr <;> (first | (exfalso; omega) | (exfalso; contradiction) | (exfalso; exact hBr rfl) | skip)) | (refine br_lt_ ?_ ?_ <;> intro hBr <;> (first | (exfalso; omega) | (exfalso; contradiction) | (exfalso; exact hBr rfl) | skip)) | (refine br_le ?_ ?_ <;> intro hBr <;> (first | (exfalso; omega) | (exfalso; contradiction) | (exfalso; exact hBr rfl) | skip)) | (refine br_le_ ?_ ?_ <;> intro hBr <;> (first | (exfalso; omega) | (exfalso; contradiction) | (exfalso; exact hBr rfl) | skip)) | (refine br_eq ?_ ?_ <;> intro hBr <;> (first | (exfalso; omega) | (exfalso; contradiction) | (exfalso; exact hBr rfl) | skip)) | (refine br_eq_ ?_ ?_ <;> intro hBr <;> (first | (exfalso; omega) | (exfalso; contradiction) | (exfalso; exact hBr rfl) | skip)) | (refine br_seq ?_ ?_ <;> intro hBr <;> (first | (exfalso; omega) | (exfalso; contradiction) | (exfalso; exact hBr rfl) | skip)) | (refine br_seq_ ?_ ?_ <;> intro hBr <;> (first | (exfalso; omega) | (exfalso; contradiction) | (exfalso; exact hBr rfl) | skip)) | (refine br_not ?_) | (refine br_not_ ?_) | (refine br_and ?_) | (refine br_and_ ?_) | (refine And.intro (by omega) ?_) | (refine ⟨_, wrap_i64 (by omega), ?_⟩) | (refine ⟨_, wrap_u64 (by omega) (by omega), ?_⟩) | (refine ⟨_, wrap_u8 (by omega) (by omega), ?_⟩) | (refine ⟨_, wrap_u32 (by omega) (by omega), ?_⟩) | (refine ⟨_, wrap_u16 (by omega) (by omega), ?_⟩) | (refine ⟨_, rfl, ?_⟩) | (exact rfl)))
      exact ⟨⟨i + 1, by omega, rfl, rfl⟩, (by simp only [Int.toNat_natCast]; show L.length - ((i : Int) + 1).toNat < _; omega)⟩
    · obtain rfl : i = k := by omega
      clear hgood
      rcases hbad with hbad | hbad
      · repeat' ((try conv => whnf) <;> (first | (refine Hold.mk ?_) | (refine And.intro (fun _ => ?_) (fun h => Bool.noConfusion h)) | (refine And.intro (fun h => Bool.noConfusion h) (fun _ => ?_)) | (refine And.intro (Nat.le_of_ble_eq_true rfl) ?_) | (refine And.intro (fun _ => ?_) (fun h => Bool.noConfusion ((beq_self_eq_true _).symm.trans h))) | (refine And.intro (fun h => Bool.noConfusion ((bne_self_eq_false _).symm.trans h)) (fun _ => ?_)) | (refine And.intro (fun h => Bool.noConfusion ((beq_self_eq_true _).symm.trans h)) (fun _ => ?_)) | (refine And.intro (fun _ => ?_) (fun h => Bool.noConfusion ((bne_self_eq_false _).symm.trans h))) | (refine ⟨_, hat, ?_⟩) | (exact True.intro) | (refine And.intro (show eqT _ _ = true by kernel_rfl) ?_) | (refine And.intro rfl ?_) | (refine And.intro (And.intro (Nat.le_of_ble_eq_true rfl) rfl) ?_) | (refine And.intro (And.intro rfl (And.intro rfl rfl)) ?_) | (exact And.intro rfl (And.intro rfl rfl)) | (exact And.intro rfl rfl) | (refine br_lt ?_ ?_ <;> intro hBr <;> (first | (exfalso; omega) | (exfalso; contradiction) | (exfalso; exact hBr rfl) | skip)) | (refine br_lt_ ?_ ?_ <;> intro hBr <;> (first | (exfalso; omega) | (exfalso; contradiction) | (exfalso; exact hBr rfl) | skip)) | (refine br_le ?_ ?_ <;> intro hBr <;> (first | (exfalso; omega) | (exfalso; contradiction) | (exfalso; exact hBr rfl) | skip)) | (refine br_le_ ?_ ?_ <;> intro hBr <;> (first | (exfalso; omega) | (exfalso; contradiction) | (exfalso; exact hBr rfl) | skip)) | (refine br_eq ?_ ?_ <;> intro hBr <;> (first | (exfalso; omega) | (exfalso; contradiction) | (exfalso; exact hBr rfl) | skip)) | (refine br_eq_ ?_ ?_ <;> intro hBr <;> (first | (exfalso; omega) | (exfalso; contradiction) | (exfalso; exact hBr rfl) | skip)) | (refine br_seq ?_ ?_ <;> intro hBr <;> (first | (exfalso; omega) | (exfalso; contradiction) | (exfalso; exact hBr rfl) | skip)) | (refine br_seq_ ?_ ?_ <;> intro hBr <;> (first | (exfalso; omega) | (exfalso; contradiction) | (exfalso; exact hBr rfl) | skip)) | (refine br_not ?_) | (refine br_not_ ?_) | (refine br_and ?_) | (refine br_and_ ?_) | (refine And.intro (by omega) ?_) | (refine ⟨_, wrap_i64 (by omega), ?_⟩) | (refine ⟨_, wrap_u64 (by omega) (by omega), ?_⟩) | (refine ⟨_, wrap_u8 (by omega) (by omega), ?_⟩) | (refine ⟨_, wrap_u32 (by omega) (by omega), ?_⟩) | (refine ⟨_, wrap_u16 (by omega) (by omega), ?_⟩) | (refine ⟨_, rfl, ?_⟩) | (exact rfl)))
      · repeat' ((try conv => whnf) <;> (first | (refine Hold.mk ?_) | (refine And.intro (fun _ => ?_) (fun h => Bool.noConfusion h)) | (refine And.intro (fun h => Bool.noConfusion h) (fun _ => ?_)) | (refine And.intro (Nat.le_of_ble_eq_true rfl) ?_) | (refine And.intro (fun _ => ?_) (fun h => Bool.noConfusion ((beq_self_eq_true _).symm.trans h))) | (refine And.intro (fun h => Bool.noConfusion ((bne_self_eq_false _).symm.trans h)) (fun _ => ?_)) | (refine And.intro (fun h => Bool.noConfusion ((beq_self_eq_true _).symm.trans h)) (fun _ => ?_)) | (refine And.intro (fun _ => ?_) (fun h => Bool.noConfusion ((bne_self_eq_false _).symm.trans h))) | (refine ⟨_, hat, ?_⟩) | (exact True.intro) | (refine And.intro (show eqT _ _ = true by kernel_rfl) ?_) | (refine And.intro rfl ?_) | (refine And.intro (And.intro (Nat.le_of_ble_eq_true rfl) rfl) ?_) | (refine And.intro (And.intro rfl (And.intro rfl rfl)) ?_) | (exact And.intro rfl (And.intro rfl rfl)) | (exact And.intro rfl rfl) | (refine br_lt ?_ ?_ <;> intro hBr <;> (first | (exfalso; omega) | (exfalso; contradiction) | (exfalso; exact hBr rfl) | skip)) | (refine br_lt_ ?_ ?_ <;> intro hBr <;> (first | (exfalso; omega) | (exfalso; contradiction) | (exfalso; exact hBr rfl) | skip)) | (refine br_le ?_ ?_ <;> intro hBr <;> (first | (exfalso; omega) | (exfalso; contradiction) | (exfalso; exact hBr rfl) | skip)) | (refine br_le_ ?_ ?_ <;> intro hBr <;> (first | (exfalso; omega) | (exfalso; contradiction) | (exfalso; exact hBr rfl) | skip)) | (refine br_eq ?_ ?_ <;> intro hBr <;> (first | (exfalso; omega) | (exfalso; contradiction) | (exfalso; exact hBr rfl) | skip)) | (refine br_eq_ ?_ ?_ <;> intro hBr <;> (first | (exfalso; omega) | (exfalso; contradiction) | (exfalso; exact hBr rfl) | skip)) | (refine br_seq ?_ ?_ <;> intro hBr <;> (first | (exfalso; omega) | (exfalso; contradiction) | (exfalso; exact hBr rfl) | skip)) | (refine br_seq_ ?_ ?_ <;> intro hBr <;> (first | (exfalso; omega) | (exfalso; contradiction) | (exfalso; exact hBr rfl) | skip)) | (refine br_not ?_) | (refine br_not_ ?_) | (refine br_and ?_) | (refine br_and_ ?_) | (refine And.intro (by omega) ?_) | (refine ⟨_, wrap_i64 (by omega), ?_⟩) | (refine ⟨_, wrap_u64 (by omega) (by omega), ?_⟩) | (refine ⟨_, wrap_u8 (by omega) (by omega), ?_⟩) | (refine ⟨_, wrap_u32 (by omega) (by omega), ?_⟩) | (refine ⟨_, wrap_u16 (by omega) (by omega), ?_⟩) | (refine ⟨_, rfl, ?_⟩) | (exact rfl)))
end Go.Proofs.Ytjfkfldlmhbnkaa.Av
namespace Go.Proofs.Ytjfkfldlmhbnkaa.Av
open Go Go.RowKit
set_option linter.unusedVariables false
set_option linter.unusedSimpArgs false
set_option maxRecDepth 100000

theorem laid_walk (L : List (List UInt8)) (g : Nat) (K cs : Nat → List AV) (A N : Nat → Nat) (hL : L.length ≤ 12) (hA : ∀ i, i ≤ L.length → A i ≤ 256) (hLay : ∀ (i : Nat) (h : i < L.length), SP 43 [T L[i], U g, Z (A i), Z 256] (.tup [.own 9 (N i) (cs i), Z 0]))
    (hS : ∀ (i : Nat) (h : i < L.length), SP 45 [Z (bs L[i]).size] (Z (N i))) (hK : ∀ i, i < L.length → K i ++ cs i = K (i + 1)) (hAN : ∀ i, i < L.length → A i + N i = A (i + 1)) (hKl : ∀ i, i ≤ L.length → (K i).length = A i) (hcl : ∀ i, i < L.length → (cs i).length = N i) (hone : ∀ i, i < L.length → ∀ v ∈ cs i, one1 v = true) (hK0 : K 0 = []) (hA0 : A 0 = 0) :
    SP 52 [.vs L.length (L.map T), U g] (.tup [.own 9 (A L.length) (K L.length), B true]) := by
  refine S_ Try.func52 (by kernel_rfl) rfl (Nat.le_of_ble_eq_true rfl) ?_
  show avc Try.prog SP _ _ _ _ _ _
  dsimp only [avc, startS, Array.toList, Try.f52]
  repeat' ((try conv => whnf) <;> (first | (refine Hold.mk ?_) | (refine And.intro (fun _ => ?_) (fun h => Bool.noConfusion h)) | (refine And.intro (fun h => Bool.noConfusion h) (fun _ => ?_)) | (refine And.intro (Nat.le_of_ble_eq_true rfl) ?_) | (refine And.intro (fun _ => ?_) (fun h => Bool.noConfusion ((beq_self_eq_true _).symm.trans h))) | (refine And.intro (fun h => Bool.noConfusion ((bne_self_eq_false _).symm.trans h)) (fun _ => ?_)) | (refine And.intro (fun h => Bool.noConfusion ((beq_self_eq_true _).symm.trans h)) (fun _ => ?_)) | (refine And.intro (fun _ => ?_) (fun h => Bool.noConfusion ((bne_self_eq_false _).symm.trans h))) | (exact True.intro) | (refine And.intro (show eqT _ _ = true by kernel_rfl) ?_) | (refine And.intro rfl ?_) | (refine And.intro (And.intro (Nat.le_of_ble_eq_true rfl) rfl) ?_) | (refine And.intro (And.intro rfl (And.intro rfl rfl)) ?_) | (exact And.intro rfl (And.intro rfl rfl)) | (exact And.intro rfl rfl) | (refine br_lt ?_ ?_ <;> intro hBr <;> (first | (exfalso; omega) | (exfalso; contradiction) | (exfalso; exact hBr rfl) | skip)) | (refine br_lt_ ?_ ?_ <;> intro hBr <;> (first | (exfalso; omega) | (exfalso; contradiction) | (exfalso; exact hBr rfl) | skip)) | (refine br_le ?_ ?_ <;> intro hBr <;> (first | (exfalso; omega) | (exfalso; contradiction) | (exfalso; exact hBr rfl) | skip)) | (refine br_le_ ?_ ?_ <;> intro hBr <;> (first | (exfalso; omega) | (exfalso; contradiction) | (exfalso; exact hBr rfl) | skip)) | (refine br_eq ?_ ?_ <;> intro hBr <;> (first | (exfalso; omega) | (exfalso; contradiction) | (exfalso; exact hBr rfl) | skip)) | (refine br_eq_ ?_ ?_ <;> intro hBr <;> (first | (exfalso; omega) | (exfalso; contradiction) | (exfalso; exact hBr rfl) | skip)) | (refine br_seq ?_ ?_ <;> intro hBr <;> (first | (exfalso; omega) | (exfalso; contradiction) | (exfalso; exact hBr rfl) | skip)) | (refine br_seq_ ?_ ?_ <;> intro hBr <;> (first | (exfalso; omega) | (exfalso; contradiction) | (exfalso; exact hBr rfl) | skip)) | (refine br_not ?_) | (refine br_not_ ?_) | (refine br_and ?_) | (refine br_and_ ?_) | (refine And.intro (by omega) ?_) | (refine ⟨_, wrap_i64 (by omega), ?_⟩) | (refine ⟨_, wrap_u64 (by omega) (by omega), ?_⟩) | (refine ⟨_, wrap_u8 (by omega) (by omega), ?_⟩) | (refine ⟨_, wrap_u32 (by omega) (by omega), ?_⟩) | (refine ⟨_, wrap_u16 (by omega) (by omega), ?_⟩) | (refine ⟨_, rfl, ?_⟩) | (exact rfl)))
  refine ⟨[7, 6, 0, 1], [(6, some 9)], fun vs bl => ∃ (i n : Nat) (D : List AV), i ≤ L.length ∧ n = A i ∧ D = K i ∧ (vs = [Z i, .sl 0 n, .vs L.length (L.map T), U g] ∧ bl = [⟨D, some 9, false, true⟩]), fun vs bl => match vs with | [.ex (.int _ i), _, _, _] => L.length - i.toNat | _ => 0, ?_, ?_⟩
  · exact ⟨0, 0, [], by omega, hA0.symm, hK0.symm, rfl, rfl⟩
  rintro vs bl ⟨i, n, D, hi, hn, hD, rfl, rfl⟩
  by_cases hlt : i < L.length
  · have hat := atI_T hlt
    have h1 := hLay i hlt
    rw [← hn] at h1
    have h2 := hS i hlt
    have k1 := hK i hlt
    have k2 := hAN i hlt
    have k3 := hKl i hi
    have k4 := hcl i hlt
    have k5 := hone i hlt
    have k6 := hA (i + 1) hlt
    have hdl : D.length = n := by rw [hD, hn]; exact k3
    clear hLay hS hK hAN hKl hcl hone
    repeat' ((try conv => whnf) <;> (first | (refine Hold.mk ?_) | (refine And.intro (fun _ => ?_) (fun h => Bool.noConfusion h)) | (refine And.intro (fun h => Bool.noConfusion h) (fun _ => ?_)) | (refine And.intro (Nat.le_of_ble_eq_true rfl) ?_) | (refine And.intro (fun _ => ?_) (fun h => Bool.noConfusion ((beq_self_eq_true _).symm.trans h))) | (refine And.intro (fun h => Bool.noConfusion ((bne_self_eq_false _).symm.trans h)) (fun _ => ?_)) | (refine And.intro (fun h => Bool.noConfusion ((beq_self_eq_true _).symm.trans h)) (fun _ => ?_)) | (refine And.intro (fun _ => ?_) (fun h => Bool.noConfusion ((bne_self_eq_false _).symm.trans h))) | (refine ⟨_, hat, ?_⟩) | (refine ⟨_, h1, ?_⟩) | (refine ⟨_, h2, ?_⟩) | (exact True.intro) | (refine And.intro (show eqT _ _ = true by kernel_rfl) ?_) | (refine And.intro rfl ?_) | (refine And.intro (And.intro (Nat.le_of_ble_eq_true rfl) rfl) ?_) | (refine And.intro (And.intro rfl (And.intro rfl rfl)) ?_) | (exact And.intro rfl (And.intro rfl rfl)) | (exact And.intro rfl rfl) | (refine br_lt ?_ ?_ <;> intro hBr <;> (first | (exfalso; omega) | (exfalso; contradiction) | (exfalso; exact hBr rfl) | skip)) | (refine br_lt_ ?_ ?_ <;> intro hBr <;> (first | (exfalso; omega) | (exfalso; contradiction) | (exfalso; exact hBr rfl) | skip)) | (refine br_le ?_ ?_ <;> intro hBr <;> (first | (exfalso; omega) | (exfalso; contradiction) | (exfalso; exact hBr rfl) | skip)) | (refine br_le_ ?_ ?_ <;> intro hBr <;> (first | (exfalso; omega) | (exfalso; contradiction) | (exfalso; exact hBr rfl) | skip)) | (refine br_eq ?_ ?_ <;> intro hBr <;> (first | (exfalso; omega) | (exfalso; contradiction) | (exfalso; exact hBr rfl) | skip)) | (refine br_eq_ ?_ ?_ <;> intro hBr <;> (first | (exfalso; omega) | (exfalso; contradiction) | (exfalso; exact hBr rfl) | skip)) | (refine br_seq ?_ ?_ <;> intro hBr <;> (first | (exfalso; omega) | (exfalso; contradiction) | (exfalso; exact hBr rfl) | skip)) | (refine br_seq_ ?_ ?_ <;> intro hBr <;> (first | (exfalso; omega) | (exfalso; contradiction) | (exfalso; exact hBr rfl) | skip)) | (refine br_not ?_) | (refine br_not_ ?_) | (refine br_and ?_) | (refine br_and_ ?_) | (refine And.intro (by omega) ?_) | (refine ⟨_, wrap_i64 (by omega), ?_⟩) | (refine ⟨_, wrap_u64 (by omega) (by omega), ?_⟩) | (refine ⟨_, wrap_u8 (by omega) (by omega), ?_⟩) | (refine ⟨_, wrap_u32 (by omega) (by omega), ?_⟩) | (refine ⟨_, wrap_u16 (by omega) (by omega), ?_⟩) | (refine ⟨_, rfl, ?_⟩) | (exact rfl)))
    refine And.intro ⟨room_s (by omega), by rw [hs1', hdl, Nat.mul_one], by rw [hs1', k4, Nat.mul_one], k5⟩ ?_
    repeat' ((try conv => whnf) <;> (first | (refine Hold.mk ?_) | (refine And.intro (fun _ => ?_) (fun h => Bool.noConfusion h)) | (refine And.intro (fun h => Bool.noConfusion h) (fun _ => ?_)) | (refine And.intro (Nat.le_of_ble_eq_true rfl) ?_) | (refine And.intro (fun _ => ?_) (fun h => Bool.noConfusion ((beq_self_eq_true _).symm.trans h))) | (refine And.intro (fun h => Bool.noConfusion ((bne_self_eq_false _).symm.trans h)) (fun _ => ?_)) | (refine And.intro (fun h => Bool.noConfusion ((beq_self_eq_true _).symm.trans h)) (fun _ => ?_)) | (refine And.intro (fun _ => ?_) (fun h => Bool.noConfusion ((bne_self_eq_false _).symm.trans h))) | (exact True.intro) | (refine And.intro (show eqT _ _ = true by kernel_rfl) ?_) | (refine And.intro rfl ?_) | (refine And.intro (And.intro (Nat.le_of_ble_eq_true rfl) rfl) ?_) | (refine And.intro (And.intro rfl (And.intro rfl rfl)) ?_) | (exact And.intro rfl (And.intro rfl rfl)) | (exact And.intro rfl rfl) | (refine br_lt ?_ ?_ <;> intro hBr <;> (first | (exfalso; omega) | (exfalso; contradiction) | (exfalso; exact hBr rfl) | skip)) | (refine br_lt_ ?_ ?_ <;> intro hBr <;> (first | (exfalso; omega) | (exfalso; contradiction) | (exfalso; exact hBr rfl) | skip)) | (refine br_le ?_ ?_ <;> intro hBr <;> (first | (exfalso; omega) | (exfalso; contradiction) | (exfalso; exact hBr rfl) | skip)) | (refine br_le_ ?_ ?_ <;> intro hBr <;> (first | (exfalso; omega) | (exfalso; contradiction) | (exfalso; exact hBr rfl) | skip)) | (refine br_eq ?_ ?_ <;> intro hBr <;> (first | (exfalso; omega) | (exfalso; contradiction) | (exfalso; exact hBr rfl) | skip)) | (refine br_eq_ ?_ ?_ <;> intro hBr <;> (first | (exfalso; omega) | (exfalso; contradiction) | (exfalso; exact hBr rfl) | skip)) | (refine br_seq ?_ ?_ <;> intro hBr <;> (first | (exfalso; omega) | (exfalso; contradiction) | (exfalso; exact hBr rfl) | skip)) | (refine br_seq_ ?_ ?_ <;> intro hBr <;> (first | (exfalso; omega) | (exfalso; contradiction) | (exfalso; exact hBr rfl) | skip)) | (refine br_not ?_) | (refine br_not_ ?_) | (refine br_and ?_) | (refine br_and_ ?_) | (refine And.intro (by omega) ?_) | (refine ⟨_, wrap_i64 (by omega), ?_⟩) | (refine ⟨_, wrap_u64 (by omega) (by omega), ?_⟩) | (refine ⟨_, wrap_u8 (by omega) (by omega), ?_⟩) | (refine ⟨_, wrap_u32 (by omega) (by omega), ?_⟩) | (refine ⟨_, wrap_u16 (by omega) (by omega), ?_⟩) | (refine ⟨_, rfl, ?_⟩) | (exact rfl)))
    exact ⟨⟨i + 1, _, _, by omega, by rw [hn]; exact k2, by rw [hD]; exact k1, rfl, rfl⟩, (by simp only [Int.toNat_natCast]; show L.length - ((i : Int) + 1).toNat < _; omega)⟩
  · obtain rfl : i = L.length := by omega
    subst hn hD
    repeat' ((try conv => whnf) <;> (first | (refine Hold.mk ?_) | (refine And.intro (fun _ => ?_) (fun h => Bool.noConfusion h)) | (refine And.intro (fun h => Bool.noConfusion h) (fun _ => ?_)) | (refine And.intro (Nat.le_of_ble_eq_true rfl) ?_) | (refine And.intro (fun _ => ?_) (fun h => Bool.noConfusion ((beq_self_eq_true _).symm.trans h))) | (refine And.intro (fun h => Bool.noConfusion ((bne_self_eq_false _).symm.trans h)) (fun _ => ?_)) | (refine And.intro (fun h => Bool.noConfusion ((beq_self_eq_true _).symm.trans h)) (fun _ => ?_)) | (refine And.intro (fun _ => ?_) (fun h => Bool.noConfusion ((bne_self_eq_false _).symm.trans h))) | (exact True.intro) | (refine And.intro (show eqT _ _ = true by kernel_rfl) ?_) | (refine And.intro rfl ?_) | (refine And.intro (And.intro (Nat.le_of_ble_eq_true rfl) rfl) ?_) | (refine And.intro (And.intro rfl (And.intro rfl rfl)) ?_) | (exact And.intro rfl (And.intro rfl rfl)) | (exact And.intro rfl rfl) | (refine br_lt ?_ ?_ <;> intro hBr <;> (first | (exfalso; omega) | (exfalso; contradiction) | (exfalso; exact hBr rfl) | skip)) | (refine br_lt_ ?_ ?_ <;> intro hBr <;> (first | (exfalso; omega) | (exfalso; contradiction) | (exfalso; exact hBr rfl) | skip)) | (refine br_le ?_ ?_ <;> intro hBr <;> (first | (exfalso; omega) | (exfalso; contradiction) | (exfalso; exact hBr rfl) | skip)) | (refine br_le_ ?_ ?_ <;> intro hBr <;> (first | (exfalso; omega) | (exfalso; contradiction) | (exfalso; exact hBr rfl) | skip)) | (refine br_eq ?_ ?_ <;> intro hBr <;> (first | (exfalso; omega) | (exfalso; contradiction) | (exfalso; exact hBr rfl) | skip)) | (refine br_eq_ ?_ ?_ <;> intro hBr <;> (first | (exfalso; omega) | (exfalso; contradiction) | (exfalso; exact hBr rfl) | skip)) | (refine br_seq ?_ ?_ <;> intro hBr <;> (first | (exfalso; omega) | (exfalso; contradiction) | (exfalso; exact hBr rfl) | skip)) | (refine br_seq_ ?_ ?_ <;> intro hBr <;> (first | (exfalso; omega) | (exfalso; contradiction) | (exfalso; exact hBr rfl) | skip)) | (refine br_not ?_) | (refine br_not_ ?_) | (refine br_and ?_) | (refine br_and_ ?_) | (refine And.intro (by omega) ?_) | (refine ⟨_, wrap_i64 (by omega), ?_⟩) | (refine ⟨_, wrap_u64 (by omega) (by omega), ?_⟩) | (refine ⟨_, wrap_u8 (by omega) (by omega), ?_⟩) | (refine ⟨_, wrap_u32 (by omega) (by omega), ?_⟩) | (refine ⟨_, wrap_u16 (by omega) (by omega), ?_⟩) | (refine ⟨_, rfl, ?_⟩) | (exact rfl)))
end Go.Proofs.Ytjfkfldlmhbnkaa.Av
namespace Go.Proofs.Ytjfkfldlmhbnkaa.Av
open Go Go.RowKit
set_option linter.unusedVariables false
set_option linter.unusedSimpArgs false
set_option maxRecDepth 100000

theorem mkT_inj {g g' : Nat} {a a' : Int} (h : OkM g a) (h' : OkM g' a') (e : mkT g a = mkT g' a') : g = g' ∧ a = a' := by
  have k : 1 ≤ g ∧ g ≤ 1099511627776 ∧ 0 ≤ a ∧ a < 1048575 := h
  have k' : 1 ≤ g' ∧ g' ≤ 1099511627776 ∧ 0 ≤ a' ∧ a' < 1048575 := h'
  unfold mkT at e
  omega
/-- a laid sector, opened -/
theorem opn_secT {t : List UInt8} {g : Nat} {at_ : Int} {i : Nat} (h : OkM g (at_ + (i : Int))) : opn (secT t g at_ i) = (mkT g (at_ + (i : Int)), padR (pc (Quill.rowB t) i), 0) := by
  have k : 1 ≤ g ∧ g ≤ 1099511627776 ∧ 0 ≤ at_ + (i : Int) ∧ at_ + (i : Int) < 1048575 := h
  exact sec_opn (by unfold mkT; omega) (by unfold mkT; omega) (pc48 _ _)
/-- where a sector of this generation and place stands, its payload is told -/
theorem payO_sec {L : List (List UInt8)} {t : List UInt8} {g : Nat} {at_ : Int} {i : Nat} (h : OkM g (at_ + (i : Int))) (hs : L[(at_ + (i : Int)).toNat]? = some (secT t g at_ i)) : payO L g (at_ + (i : Int)) = some (padR (pc (Quill.rowB t) i)) := by
  have k : 1 ≤ g ∧ g ≤ 1099511627776 ∧ 0 ≤ at_ + (i : Int) ∧ at_ + (i : Int) < 1048575 := h
  unfold payO
  rw [hs]
  simp only
  rw [opn_secT h, if_pos ⟨k.2.2.1, h, rfl, rfl⟩]
/-- .. and of another generation none is -/
theorem payO_gen {L : List (List UInt8)} {t : List UInt8} {g g' : Nat} {at_ : Int} {i : Nat} (h : OkM g (at_ + (i : Int))) (hs : L[(at_ + (i : Int)).toNat]? = some (secT t g at_ i)) (hne : g ≠ g') : payO L g' (at_ + (i : Int)) = none := by
  unfold payO
  rw [hs]
  simp only
  rw [opn_secT h]
  split
  · rename_i hc
    exact absurd (mkT_inj h hc.2.1 hc.2.2.2).1 hne
  · rfl
/-- the payloads of a text that was laid here -/
theorem paysO_laid {L : List (List UInt8)} {t : List UInt8} {g : Nat} {at_ : Int} (k : Nat) (h : ∀ i : Nat, i < k → OkM g (at_ + (i : Int)) ∧ L[(at_ + (i : Int)).toNat]? = some (secT t g at_ i)) : paysO L g at_ k = (List.range k).map fun i => padR (pc (Quill.rowB t) i) := by
  have hle := paysO_len L g k at_
  have hlen : (paysO L g at_ k).length = k := by
    apply Classical.byContradiction
    intro hn
    have hlt : (paysO L g at_ k).length < k := by omega
    have h1 := paysO_end L g k at_ hlt
    have h2 := h _ hlt
    rw [payO_sec h2.1 h2.2] at h1
    cases h1
  apply List.ext_getElem?
  intro i
  by_cases hi : i < k
  · have h1 := paysO_at L g k at_ i (by omega)
    have h2 := h i hi
    rw [payO_sec h2.1 h2.2] at h1
    rw [← h1]
    simp [hi]
  · rw [List.getElem?_eq_none (by omega), List.getElem?_eq_none (by simp; omega)]
theorem pad_first {q : List UInt8} {n : Nat} (h : n ≤ q.length) : (padR q).take n = q.take n := by
  unfold padR
  rw [List.take_append_of_le_length h]
/-- payloads of a text, with bytes of 0 behind the last one: the text's first bytes -/
theorem pads_flat (l : List UInt8) : ∀ k, (((List.range k).map fun i => padR (pc l i)).flatten).take (min (48 * k) l.length) = l.take (48 * k)
  | 0 => by simp
  | k + 1 => by
    have ih := pads_flat l k
    have hfl : ∀ k, (((List.range k).map fun i => padR (pc l i)).flatten).length = 48 * k := by
      intro k
      induction k with
      | zero => rfl
      | succ k ih2 =>
        rw [List.range_succ, List.map_append, List.flatten_append, List.length_append, ih2, List.map_singleton, List.flatten_singleton, pad_len (pc48 l k)]; omega
    rw [List.range_succ, List.map_append, List.flatten_append, List.map_singleton, List.flatten_singleton]
    by_cases h : 48 * k ≤ l.length
    · rw [List.take_append, hfl k, List.take_of_length_le (by rw [hfl k]; omega)]
      rw [show min (48 * k) l.length = 48 * k by omega, List.take_of_length_le (by rw [hfl k]; omega)] at ih
      rw [ih, show 48 * (k + 1) = 48 * k + 48 by omega, List.take_add]
      congr 1
      have hpl : (pc l k).length = min 48 (l.length - 48 * k) := by unfold pc; rw [List.length_take, List.length_drop]
      rw [pad_first (by omega), List.take_of_length_le (by omega)]
      rfl
    · rw [List.take_append_of_le_length (by rw [hfl k]; omega)]
      rw [show min (48 * (k + 1)) l.length = min (48 * k) l.length by omega, ih, List.take_of_length_le (by omega), List.take_of_length_le (by omega)]
/-- where a text was laid, it is told -/
theorem textO_laid {L : List (List UInt8)} {t : List UInt8} {g : Nat} {at_ : Int} (h0 : t ≠ []) (h1 : t.length ≤ 1400) (h : ∀ i : Nat, i < szT t.length → OkM g (at_ + (i : Int)) ∧ L[(at_ + (i : Int)).toNat]? = some (secT t g at_ i)) : textO L g at_ = some (t, szT t.length) := by
  have hk := npc_row h0 h1
  have hl := rowB_len t
  have hpos : 0 < t.length := List.length_pos_iff.2 h0
  have hsz : szT t.length = (t.length + 2 + 47) / 48 := by unfold szT; rw [if_neg (by omega)]
  have hp := paysO_laid (szT t.length) h
  have h2 := h 0 (by omega)
  have hp0 := payO_sec h2.1 h2.2
  rw [Int.natCast_zero, Int.add_zero] at hp0
  have hpc : (pc (Quill.rowB t) 0).length = min 48 (t.length + 2) := by unfold pc; rw [List.length_take, List.length_drop, hl]; omega
  have htell : Quill.tell ((padR (pc (Quill.rowB t) 0)).take 2) = t.length := by
    rw [pad_first (by omega)]
    unfold pc
    rw [List.take_take, Nat.mul_zero, List.drop_zero, show min 2 48 = 2 from rfl]
    unfold Quill.rowB
    rw [List.take_left' (Quill.numB_length 2 t.length), Quill.tell_numB]
    omega
  unfold textO
  rw [hp0]
  simp only
  rw [htell, if_neg (by omega), hp, if_neg (by simp)]
  congr 2
  have hf := pads_flat (Quill.rowB t) (szT t.length)
  rw [show min (48 * szT t.length) (Quill.rowB t).length = t.length + 2 by omega, List.take_of_length_le (l := Quill.rowB t) (by omega)] at hf
  have e : ∀ (X : List UInt8), (X.drop 2).take t.length = (X.take (t.length + 2)).drop 2 := fun X => by rw [List.drop_take]; congr 1
  rw [e, hf]
  unfold Quill.rowB
  rw [List.drop_left' (Quill.numB_length 2 t.length)]
end Go.Proofs.Ytjfkfldlmhbnkaa.Av
namespace Go.Proofs.Ytjfkfldlmhbnkaa.Av
open Go Go.RowKit
set_option linter.unusedVariables false
set_option linter.unusedSimpArgs false
set_option maxRecDepth 100000

/-- texts of 1 to 200 bytes -/
def GoodL (l : List (List UInt8)) : Prop := ∀ t ∈ l, t ≠ [] ∧ t.length ≤ 200
def lenL : List (List UInt8) → Nat
  | [] => 0
  | t :: l => szT t.length + lenL l
def laidL (g : Nat) : Nat → List (List UInt8) → List (List UInt8)
  | _, [] => []
  | a, t :: l => layT t g (a : Int) ++ laidL g (a + szT t.length) l
theorem GoodL.tail {t : List UInt8} {l : List (List UInt8)} (h : GoodL (t :: l)) : GoodL l := fun x hx => h x (List.mem_cons_of_mem _ hx)
theorem GoodL.take {l : List (List UInt8)} (h : GoodL l) (n : Nat) : GoodL (l.take n) := fun x hx => h x (List.mem_of_mem_take hx)
theorem szT_good {t : List UInt8} (h : t ≠ [] ∧ t.length ≤ 200) : szT t.length = (t.length + 49) / 48 ∧ 1 ≤ szT t.length ∧ szT t.length ≤ 5 := by
  have hpos : 0 < t.length := List.length_pos_iff.2 h.1
  unfold szT
  rw [if_neg (by omega)]
  omega
theorem layT_len {t : List UInt8} {g : Nat} {a : Int} (h : t ≠ [] ∧ t.length ≤ 200) : (layT t g a).length = szT t.length := by
  unfold layT
  rw [List.length_map, List.length_range, npc_row h.1 (by omega)]
theorem layT_at {t : List UInt8} {g : Nat} {a : Int} (h : t ≠ [] ∧ t.length ≤ 200) {i : Nat} (hi : i < szT t.length) : (layT t g a)[i]? = some (secT t g a i) := by
  unfold layT
  rw [npc_row h.1 (by omega)]
  simp [hi]
theorem lenL_app (l m : List (List UInt8)) : lenL (l ++ m) = lenL l + lenL m := by
  induction l with
  | nil => simp [lenL]
  | cons t l ih => simp only [List.cons_append, lenL, ih]; omega
theorem laidL_app (g : Nat) (l m : List (List UInt8)) : ∀ a, laidL g a (l ++ m) = laidL g a l ++ laidL g (a + lenL l) m := by
  induction l with
  | nil => intro a; simp [laidL, lenL]
  | cons t l ih => intro a; simp only [List.cons_append, laidL, lenL, ih, List.append_assoc]; rw [Nat.add_assoc]
theorem laidL_len (g : Nat) {l : List (List UInt8)} (h : GoodL l) : ∀ a, (laidL g a l).length = lenL l := by
  induction l with
  | nil => intro a; rfl
  | cons t l ih => intro a; simp only [laidL, lenL, List.length_append]; rw [layT_len (h t (by simp)), ih h.tail]
theorem lenL_le {l : List (List UInt8)} (h : GoodL l) : l.length ≤ lenL l ∧ lenL l ≤ 5 * l.length := by
  induction l with
  | nil => simp [lenL]
  | cons t l ih =>
    have := ih h.tail
    have := szT_good (h t (by simp))
    simp only [lenL, List.length_cons]; omega
theorem lenL_take (l : List (List UInt8)) {i : Nat} (hi : i < l.length) : lenL (l.take (i + 1)) = lenL (l.take i) + szT (l[i]).length := by
  rw [List.take_add_one, List.getElem?_eq_getElem hi, lenL_app]; rfl
theorem laidL_take (g : Nat) (l : List (List UInt8)) {i : Nat} (hi : i < l.length) : laidL g 0 (l.take (i + 1)) = laidL g 0 (l.take i) ++ layT l[i] g ((lenL (l.take i) : Nat) : Int) := by
  rw [List.take_add_one, List.getElem?_eq_getElem hi, laidL_app, Nat.zero_add]
  show _ ++ laidL g _ [l[i]] = _
  simp [laidL]
theorem lenL_mono (l : List (List UInt8)) : ∀ {i : Nat}, lenL (l.take i) ≤ lenL l := by
  intro i
  have := lenL_app (l.take i) (l.drop i)
  rw [List.take_append_drop] at this
  omega
/-- the length that a text's first payload tells -/
theorem tell_first {t : List UInt8} (h : t ≠ [] ∧ t.length ≤ 200) : Quill.tell ((padR (pc (Quill.rowB t) 0)).take 2) = t.length := by
  have hl := rowB_len t
  have hpc : (pc (Quill.rowB t) 0).length = min 48 (t.length + 2) := by unfold pc; rw [List.length_take, List.length_drop, hl]; omega
  rw [pad_first (by omega)]
  unfold pc
  rw [List.take_take, Nat.mul_zero, List.drop_zero, show min 2 48 = 2 from rfl]
  unfold Quill.rowB
  rw [List.take_left' (Quill.numB_length 2 t.length), Quill.tell_numB]
  omega
/-- a text one of whose sectors does not stand there is none -/
theorem textO_broken {M : List (List UInt8)} {t : List UInt8} {g a i0 : Nat} (ht : t ≠ [] ∧ t.length ≤ 200) (h : ∀ i, i < szT t.length → OkM g ((a : Int) + (i : Int))) (hi0 : i0 < szT t.length) (hs : ∀ i, i < i0 → M[a + i]? = some (secT t g (a : Int) i)) (hn : payO M g ((a : Int) + (i0 : Int)) = none) : textO M g (a : Int) = none := by
  by_cases h0 : i0 = 0
  · subst h0
    rw [Int.natCast_zero, Int.add_zero] at hn
    unfold textO; rw [hn]
  · have hp := payO_sec (L := M) (h 0 (by omega)) (by rw [show ((a : Int) + ((0 : Nat) : Int)).toNat = a + 0 by omega]; exact hs 0 (by omega))
    rw [Int.natCast_zero, Int.add_zero] at hp
    unfold textO
    rw [hp]
    simp only
    rw [tell_first ht, if_neg (by omega), if_pos]
    have hle := paysO_len M g (szT t.length) (a : Int)
    apply Classical.byContradiction
    intro hc
    have := paysO_at M g (szT t.length) (a : Int) i0 (by omega)
    rw [hn, List.getElem?_eq_getElem (by omega)] at this
    cases this
/-- texts that stand one behind the other, and behind them none, are scanned -/
theorem scanO_laid {M : List (List UInt8)} {g : Nat} (hg : 1 ≤ g ∧ g ≤ 1099511627776) : ∀ (l : List (List UInt8)) (a f : Nat), GoodL l → a + lenL l ≤ 1000000 → (∀ i, i < lenL l → M[a + i]? = (laidL g a l)[i]?) → textO M g ((a + lenL l : Nat) : Int) = none → l.length < f → scanO M g f (a : Int) = (l, ((a + lenL l : Nat) : Int))
  | [], a, f, _, _, _, hn, hf => by
    obtain ⟨f, rfl⟩ : ∃ f', f = f' + 1 := ⟨f - 1, by omega⟩
    simp only [lenL, Nat.add_zero] at hn ⊢
    unfold scanO; rw [hn]
  | t :: l, a, f, hgd, hle, hs, hn, hf => by
    obtain ⟨f, rfl⟩ : ∃ f', f = f' + 1 := ⟨f - 1, by omega⟩
    have ht := hgd t (by simp)
    have hsz := szT_good ht
    have hl := layT_len (g := g) (a := (a : Int)) ht
    simp only [lenL] at hle hs hn
    have h1 : textO M g (a : Int) = some (t, szT t.length) := by
      refine textO_laid ht.1 (by omega) fun i hi => ⟨by unfold OkM; omega, ?_⟩
      rw [show ((a : Int) + (i : Int)).toNat = a + i by omega, hs i (by omega)]
      simp only [laidL]
      rw [List.getElem?_append_left (by omega), layT_at ht hi]
    have ih := scanO_laid (M := M) hg l (a + szT t.length) f hgd.tail (by omega) (fun i hi => by
      have := hs (szT t.length + i) (by omega)
      simp only [laidL] at this
      rw [List.getElem?_append_right (by omega), hl, Nat.add_sub_cancel_left] at this
      rw [Nat.add_assoc]; exact this) (by rw [Nat.add_assoc]; exact hn) (by simpa using hf)
    unfold scanO
    rw [h1]
    simp only
    rw [show (a : Int) + ((szT t.length : Nat) : Int) = ((a + szT t.length : Nat) : Int) by omega, ih]
    simp only [lenL, Nat.add_assoc]
/-- how many texts stand whole in so many sectors -/
def fitN : List (List UInt8) → Nat → Nat
  | [], _ => 0
  | t :: l, n => if szT t.length ≤ n then 1 + fitN l (n - szT t.length) else 0
theorem fitN_ok : ∀ (l : List (List UInt8)) (n : Nat), fitN l n ≤ l.length ∧ lenL (l.take (fitN l n)) ≤ n ∧ (fitN l n = l.length ∨ ∃ h : fitN l n < l.length, n < lenL (l.take (fitN l n)) + szT (l[fitN l n]).length)
  | [], n => ⟨Nat.le_refl _, by simp [fitN, lenL], .inl rfl⟩
  | t :: l, n => by
    generalize hj : fitN (t :: l) n = j
    unfold fitN at hj
    by_cases h : szT t.length ≤ n
    · obtain ⟨h1, h2, h3⟩ := fitN_ok l (n - szT t.length)
      rw [if_pos h] at hj
      subst hj
      refine ⟨by simp; omega, by rw [Nat.add_comm 1, List.take_succ_cons]; simp only [lenL]; omega, ?_⟩
      rcases h3 with h3 | ⟨h3, h4⟩
      · left; simp; omega
      · right
        refine ⟨by simp; omega, ?_⟩
        rw [show (t :: l)[1 + fitN l (n - szT t.length)]'(by simp; omega) = l[fitN l (n - szT t.length)] by simp [Nat.add_comm 1]]
        rw [Nat.add_comm 1, List.take_succ_cons]
        simp only [lenL]; omega
    · rw [if_neg h] at hj
      subst hj
      refine ⟨by simp, by simp [lenL], .inr ⟨by simp, ?_⟩⟩
      simp [lenL]; omega
theorem payO_out {M : List (List UInt8)} {g : Nat} {a : Int} (h : M.length ≤ a.toNat) : payO M g a = none := by
  unfold payO
  rw [List.getElem?_eq_none h]
theorem okM_of {g a : Nat} (hg : 1 ≤ g ∧ g ≤ 1099511627776) (h : a ≤ 1000000) : OkM g (a : Int) := by unfold OkM; omega
/-- a text of laid texts: where it begins, its sectors stand -/
theorem laidL_sec {g : Nat} {l : List (List UInt8)} (h : GoodL l) {j i : Nat} (hj : j < l.length) (hi : i < szT (l[j]).length) : (laidL g 0 l)[lenL (l.take j) + i]? = some (secT l[j] g ((lenL (l.take j) : Nat) : Int) i) := by
  have e : l = l.take (j + 1) ++ l.drop (j + 1) := (List.take_append_drop _ _).symm
  have hl : (laidL g 0 (l.take j)).length = lenL (l.take j) := laidL_len g (h.take j) 0
  have hk : (laidL g 0 (l.take (j + 1))).length = lenL (l.take (j + 1)) := laidL_len g (h.take _) 0
  have hm := lenL_take l hj
  have ht := h l[j] (List.getElem_mem hj)
  have e2 : laidL g 0 l = laidL g 0 (l.take (j + 1)) ++ laidL g (0 + lenL (l.take (j + 1))) (l.drop (j + 1)) := by
    rw [← laidL_app, List.take_append_drop]
  rw [e2, List.getElem?_append_left (by omega), laidL_take g l hj, List.getElem?_append_right (by omega), hl, Nat.add_sub_cancel_left, layT_at ht hi]
/-- sectors that stand as they were laid, as far as texts reach, and behind them a text that is broken -/
theorem scan_cut {g n : Nat} {l : List (List UInt8)} (hg : 1 ≤ g ∧ g ≤ 1099511627776) (h : GoodL l) (hl : l.length ≤ 12) (hn : n ≤ lenL l) :
    ∀ f, fitN l n < f → scanO ((laidL g 0 l).take n) g f 0 = (l.take (fitN l n), ((lenL (l.take (fitN l n)) : Nat) : Int)) := by
  intro f hf
  obtain ⟨h1, h2, h3⟩ := fitN_ok l n
  generalize fitN l n = j at h1 h2 h3 hf
  have hle := lenL_le h
  have hk := laidL_len g h 0
  have hj := lenL_le (h.take j)
  have := scanO_laid (M := (laidL g 0 l).take n) hg (l.take j) 0 f (h.take j) (by have := lenL_mono l (i := j); omega) (fun i hi => by
    have e2 : laidL g 0 l = laidL g 0 (l.take j) ++ laidL g (0 + lenL (l.take j)) (l.drop j) := by
      rw [← laidL_app, List.take_append_drop]
    have hk2 := laidL_len g (h.take j) 0
    rw [Nat.zero_add, List.getElem?_take_of_lt (by omega), e2, List.getElem?_append_left (by omega)]) (by
    rw [Nat.zero_add]
    have hlen : ((laidL g 0 l).take n).length = n := by rw [List.length_take]; omega
    rcases h3 with h3 | ⟨h3, h4⟩
    · have e : lenL (l.take j) = lenL l := by rw [h3, List.take_length]
      have hp : payO ((laidL g 0 l).take n) g ((lenL (l.take j) : Nat) : Int) = none := payO_out (by omega)
      unfold textO; rw [hp]
    · have ht := h l[j] (List.getElem_mem h3)
      have hsz := szT_good ht
      have hm := lenL_mono l (i := j + 1)
      have hm2 := lenL_take l h3
      refine textO_broken ht (i0 := n - lenL (l.take j)) (fun i hi => by rw [← Int.natCast_add]; exact okM_of hg (by omega)) (by omega) (fun i hi => ?_) (payO_out (by omega))
      rw [List.getElem?_take_of_lt (by omega)]
      exact laidL_sec h h3 (by omega)) (by rw [List.length_take]; omega)
  rw [Nat.zero_add] at this
  exact this
/-- in another generation there are none -/
theorem scan_gen {g g' : Nat} {l : List (List UInt8)} (hg : 1 ≤ g ∧ g ≤ 1099511627776) (h : GoodL l) (hne : g ≠ g') : ∀ f, scanO (laidL g 0 l) g' f 0 = ([], 0) := by
  intro f
  cases f with
  | zero => rfl
  | succ f =>
    have hp : payO (laidL g 0 l) g' 0 = none := by
      cases l with
      | nil => exact payO_out (by simp [laidL])
      | cons t l =>
        have ht := h t (by simp)
        have hsz := szT_good ht
        have := payO_gen (L := laidL g 0 (t :: l)) (t := t) (at_ := 0) (i := 0) (okM_of (a := 0) hg (by omega)) (by
          show (laidL g 0 (t :: l))[0]? = _
          have := layT_at (g := g) (a := ((0 : Nat) : Int)) ht (i := 0) (by omega)
          have hl := layT_len (g := g) (a := ((0 : Nat) : Int)) ht
          simp only [laidL]
          rw [List.getElem?_append_left (by omega)]
          exact this) hne
        exact this
    unfold scanO textO
    rw [hp]
end Go.Proofs.Ytjfkfldlmhbnkaa.Av
namespace Go.Proofs.Ytjfkfldlmhbnkaa.Av
open Go Go.RowKit
set_option linter.unusedVariables false
set_option linter.unusedSimpArgs false
set_option maxRecDepth 100000

/-- each laid sector is a text's -/
theorem laidL_any {g : Nat} {l : List (List UInt8)} (h : GoodL l) : ∀ (a i : Nat), i < lenL l → ∃ (t : List UInt8) (b j : Nat), b + j = a + i ∧ (laidL g a l)[i]? = some (secT t g (b : Int) j) := by
  induction l with
  | nil => intro a i hi; simp [lenL] at hi
  | cons t l ih =>
    intro a i hi
    have ht := h t (by simp)
    have hl := layT_len (g := g) (a := (a : Int)) ht
    simp only [lenL] at hi
    by_cases hlt : i < szT t.length
    · exact ⟨t, a, i, rfl, by simp only [laidL]; rw [List.getElem?_append_left (by omega), layT_at ht hlt]⟩
    · obtain ⟨t', b, j, h1, h2⟩ := ih h.tail (a + szT t.length) (i - szT t.length) (by omega)
      refine ⟨t', b, j, by omega, ?_⟩
      simp only [laidL]
      rw [List.getElem?_append_right (by omega), hl]; exact h2
/-- what stood at a place: a sector of the generation ahead, or a blank one -/
def undS (was : List (List UInt8)) (i : Nat) : List UInt8 := match was[i]? with
  | some s => s
  | none => List.replicate 64 0
/-- what is left: of the last text's sectors each is there whole, or torn over what stood there (of none of its bytes, perhaps) -/
structure Left (k was M : List (List UInt8)) (first : Nat) : Prop where
  len : M.length = max k.length was.length
  head : ∀ i, i < first → M[i]? = k[i]?
  last : ∀ i (h : i < k.length), M[i]? = some k[i] ∨ ∃ c, c ≤ 64 ∧ M[i]? = some (torn k[i] (undS was i) c)
  rest : ∀ i, k.length ≤ i → M[i]? = was[i]?
theorem secT_ends {t : List UInt8} {g a i : Nat} (h : OkM g ((a + i : Nat) : Int)) : (secT t g (a : Int) i).length = 64 ∧ hdM (secT t g (a : Int) i) = mkT g ((a + i : Nat) : Int) ∧ tlM (secT t g (a : Int) i) = mkT g ((a + i : Nat) : Int) ∧ mkT g ((a + i : Nat) : Int) ≠ 0 := by
  have k : 1 ≤ g ∧ g ≤ 1099511627776 ∧ 0 ≤ ((a + i : Nat) : Int) ∧ ((a + i : Nat) : Int) < 1048575 := h
  unfold secT
  rw [← Int.natCast_add]
  exact ⟨sec_len _ _ (pc48 _ _), hd_sec _ (by unfold mkT; omega), tl_sec _ (by unfold mkT; omega) (pc48 _ _), by unfold mkT; omega⟩
/-- a torn sector over such a one is none -/
theorem payO_torn {M : List (List UInt8)} {f o : List UInt8} {i c m0 : Nat} (hc : c ≤ 64) (hi : M[i]? = some (torn f o c)) (hf : f.length = 64) (ho : o.length = 64) (f1 : hdM f = mkT 7 (i : Int)) (f2 : tlM f = mkT 7 (i : Int)) (o1 : hdM o = m0) (o2 : tlM o = m0) (h0 : mkT 7 (i : Int) ≠ 0) (hne : m0 ≠ mkT 7 (i : Int)) (ht : torn f o c ≠ f) : payO M 7 (i : Int) = none := by
  have := torn_tells hf ho f1 f2 o1 o2 h0 hne hc
  unfold payO
  rw [show ((i : Int)).toNat = i from rfl, hi]
  simp only
  rw [if_neg]
  rintro ⟨_, _, h1, h2⟩
  rcases this with ⟨e, _⟩ | ⟨e, _⟩ | ⟨_, _, ⟨e, _⟩ | ⟨_, e⟩⟩
  · rw [e] at h1; exact absurd h1 (by decide)
  · rw [e] at h1; exact absurd h1 (by decide)
  · exact hne (e.symm.trans h2)
  · exact ht e
theorem und_ends {old : List (List UInt8)} (h : GoodL old) (hl : old.length ≤ 12) (i : Nat) : ∃ m0, (undS (laidL 6 0 old) i).length = 64 ∧ hdM (undS (laidL 6 0 old) i) = m0 ∧ tlM (undS (laidL 6 0 old) i) = m0 ∧ m0 ≠ mkT 7 (i : Int) := by
  have hle := lenL_le h
  have hk := laidL_len 6 h 0
  unfold undS
  by_cases hi : i < lenL old
  · obtain ⟨t, b, j, h1, h2⟩ := laidL_any (g := 6) h 0 i hi
    rw [h2]
    have he := secT_ends (t := t) (g := 6) (a := b) (i := j) (by rw [h1]; unfold OkM; omega)
    refine ⟨_, he.1, he.2.1, he.2.2.1, ?_⟩
    rw [h1]; unfold mkT; omega
  · rw [List.getElem?_eq_none (by omega)]
    refine ⟨0, by simp, ?_, ?_, by unfold mkT; omega⟩
    · simp only; rw [hdM, List.take_replicate]; exact tell_zeros _
    · simp only; rw [tlM, List.drop_replicate]; exact tell_zeros _
/-- all is there -/
theorem left_whole {l old M : List (List UInt8)} {first : Nat} (h : GoodL l) (ho : GoodL old) (hl : l.length ≤ 12) (hol : old.length ≤ 12) (hM : Left (laidL 7 0 l) (laidL 6 0 old) M first) (hw : ∀ i, i < lenL l → M[i]? = (laidL 7 0 l)[i]?) :
    ∀ f, l.length < f → scanO M 7 f 0 = (l, ((lenL l : Nat) : Int)) := by
  intro f hf
  have hle := lenL_le h
  have hle2 := lenL_le ho
  have hk := laidL_len 7 h 0
  have hk2 := laidL_len 6 ho 0
  have := scanO_laid (M := M) (g := 7) (by omega) l 0 f h (by omega) (fun i hi => by rw [Nat.zero_add]; exact hw i hi) (by
    rw [Nat.zero_add]
    have hp : payO M 7 ((lenL l : Nat) : Int) = none := by
      have hr := hM.rest (lenL l) (by omega)
      by_cases hi : lenL l < lenL old
      · obtain ⟨t, b, j, h1, h2⟩ := laidL_any (g := 6) ho 0 (lenL l) hi
        rw [h2] at hr
        have := payO_gen (L := M) (t := t) (g := 6) (g' := 7) (at_ := (b : Int)) (i := j) (by rw [← Int.natCast_add, h1]; unfold OkM; omega) (by
          rw [← Int.natCast_add, h1, Nat.zero_add]; exact hr) (by decide)
        rw [← Int.natCast_add, h1, Nat.zero_add] at this
        exact this
      · rw [List.getElem?_eq_none (l := laidL 6 0 old) (by omega)] at hr
        unfold payO
        rw [show ((lenL l : Nat) : Int).toNat = lenL l from rfl, hr]
    unfold textO; rw [hp]) hf
  rw [Nat.zero_add] at this
  exact this
/-- the last text is not there whole -/
theorem left_broken {l old M : List (List UInt8)} {first : Nat} (h : GoodL l) (ho : GoodL old) (hl : l.length ≤ 12) (hol : old.length ≤ 12) (h0 : l ≠ []) (hfi : first = lenL (l.take (l.length - 1))) (hM : Left (laidL 7 0 l) (laidL 6 0 old) M first) (hw : ¬ ∀ i, i < lenL l → M[i]? = (laidL 7 0 l)[i]?) :
    ∀ f, l.length < f → scanO M 7 f 0 = (l.take (l.length - 1), (first : Int)) := by
  intro f hf
  have hle := lenL_le h
  have hk := laidL_len 7 h 0
  have hpos : 0 < l.length := List.length_pos_iff.2 h0
  have hlt : l.length - 1 < l.length := by omega
  have ht := h _ (List.getElem_mem hlt)
  have hm := lenL_take l hlt
  have hm0 := lenL_mono l (i := l.length - 1)
  rw [show l.length - 1 + 1 = l.length by omega, List.take_length] at hm
  -- the first one that is not there
  have hex : ∃ i0, i0 < lenL l ∧ M[i0]? ≠ (laidL 7 0 l)[i0]? ∧ ∀ i, i < i0 → M[i]? = (laidL 7 0 l)[i]? := by
    apply Classical.byContradiction
    intro hc
    apply hw
    intro i
    induction i using Nat.strongRecOn with
    | ind i ih =>
      intro hi
      apply Classical.byContradiction
      intro hne
      exact hc ⟨i, hi, hne, fun j hj => ih j hj (by omega)⟩
  obtain ⟨i0, hi0, hne, hall⟩ := hex
  have hge : first ≤ i0 := by
    apply Classical.byContradiction
    intro hc
    exact hne (hM.head i0 (by omega))
  have hp : payO M 7 (i0 : Int) = none := by
    rcases hM.last i0 (by omega) with h1 | ⟨c, hc, h1⟩
    · exact absurd (h1.trans (List.getElem?_eq_getElem _).symm) hne
    · obtain ⟨t, b, j, e1, e2⟩ := laidL_any (g := 7) h 0 i0 hi0
      rw [List.getElem?_eq_getElem (by omega)] at e2
      injection e2 with e2
      have he := secT_ends (t := t) (g := 7) (a := b) (i := j) (by rw [e1]; unfold OkM; omega)
      rw [e1, Nat.zero_add, ← e2] at he
      obtain ⟨m0, u1, u2, u3, u4⟩ := und_ends ho hol i0
      refine payO_torn hc h1 he.1 u1 he.2.1 he.2.2.1 u2 u3 he.2.2.2 u4 fun e => hne ?_
      rw [h1, e, List.getElem?_eq_getElem (by omega)]
  have hb : textO M 7 ((0 + lenL (l.take (l.length - 1)) : Nat) : Int) = none := by
    rw [Nat.zero_add, ← hfi]
    refine textO_broken (t := l[l.length - 1]) ht (i0 := i0 - first) (fun i hi => by rw [← Int.natCast_add]; exact okM_of (by omega) (by have := szT_good ht; omega)) (by omega) (fun i hi => ?_) (by rw [← Int.natCast_add, show first + (i0 - first) = i0 by omega]; exact hp)
    rw [hall (first + i) (by omega), hfi]
    exact laidL_sec h hlt (by omega)
  have := scanO_laid (M := M) (g := 7) (by omega) (l.take (l.length - 1)) 0 f (h.take _) (by have := lenL_le (h.take (l.length - 1)); omega) (fun i hi => by
    rw [Nat.zero_add, hM.head i (by omega)]
    have e2 : laidL 7 0 l = laidL 7 0 (l.take (l.length - 1)) ++ laidL 7 (0 + lenL (l.take (l.length - 1))) (l.drop (l.length - 1)) := by
      rw [← laidL_app, List.take_append_drop]
    have hk2 := laidL_len 7 (h.take (l.length - 1)) 0
    rw [e2, List.getElem?_append_left (by omega)]) hb (by rw [List.length_take]; omega)
  rw [Nat.zero_add, ← hfi] at this
  exact this
abbrev cutI (c n : Nat) : Int := (c : Int) % ((n : Int) + 1)
noncomputable abbrev cutA (K : List AV) (i : Int) : AV := .vs (i.toNat - (0 : Int).toNat) (takeL K (mulS (0 : Int).toNat (sizeT Try.prog 9)) (mulS (i.toNat - (0 : Int).toNat) (sizeT Try.prog 9)))
end Go.Proofs.Ytjfkfldlmhbnkaa.Av
