/- nonce: taking, the reference's parsing, the law of parsing. No conditions but that texts are no longer than memory holds. -/
import Derived.Test.YtfonmnodjmeigaaNonce3
namespace Go.Proofs.Ytfonmnodjmeigaa.Av
set_option maxHeartbeats 1000000
open Go Go.RowKit
set_option linter.unusedVariables false
set_option linter.unusedSimpArgs false
set_option maxRecDepth 100000

theorem take_no (e n : Nat) (c : Int) (hc : c ≠ 0) (h : SP 34 [cnt e n] (.tup [T [], Z c])) : SP 45 [cnt e n] (.tup [T [], cnt e n, Z c]) := by
  refine S_ Try.func45 (by kernel_rfl) rfl (Nat.le_of_ble_eq_true rfl) ?_
  show avc Try.prog SP _ _ _ _ _ _
  dsimp only [avc, aops, startS, Array.toList, Try.f45]
  repeat' (first | (refine And.intro (fun _ => ?_) (fun h => Bool.noConfusion h)) | (refine And.intro (fun h => Bool.noConfusion h) (fun _ => ?_)) | (refine And.intro (Nat.le_of_ble_eq_true rfl) ?_))
  refine ⟨_, h, ?_⟩
  refine And.intro (fun h1 => ?_) (fun h1 => ?_)
  · have h1 : (c != 0) = true := h1
    refine ⟨[], [0,0,0,5,15], by kernel_rfl, ?_⟩
    repeat' (first | (refine And.intro (fun _ => ?_) (fun h => Bool.noConfusion h)) | (refine And.intro (fun h => Bool.noConfusion h) (fun _ => ?_)) | (refine And.intro (Nat.le_of_ble_eq_true rfl) ?_))
    repeat' (first | (exact True.intro) | (exact rfl) | (exact And.intro rfl (And.intro rfl rfl)) | (exact And.intro rfl rfl) | (refine And.intro (Nat.le_of_ble_eq_true rfl) ?_) | (refine And.intro ?_ ?_))
  · have h1 : (c != 0) = false := h1
    exact absurd h1 (by simp [hc])
theorem take_yes (e n : Nat) (t : List UInt8) (hn : U64 (n + 1)) (h : SP 34 [cnt e n] (.tup [T t, Z 0])) : SP 45 [cnt e n] (.tup [T t, cnt e (n + 1), Z 0]) := by
  have hn : n + 1 < 18446744073709551616 := hn
  refine S_ Try.func45 (by kernel_rfl) rfl (Nat.le_of_ble_eq_true rfl) ?_
  show avc Try.prog SP _ _ _ _ _ _
  dsimp only [avc, aops, startS, Array.toList, Try.f45]
  repeat' ((try conv => whnf) <;> (first | (refine And.intro (fun _ => ?_) (fun h => Bool.noConfusion h)) | (refine And.intro (fun h => Bool.noConfusion h) (fun _ => ?_)) | (refine And.intro (Nat.le_of_ble_eq_true rfl) ?_) | (refine And.intro (fun _ => ?_) (fun h => Bool.noConfusion ((beq_self_eq_true _).symm.trans h))) | (refine And.intro (fun h => Bool.noConfusion ((bne_self_eq_false _).symm.trans h)) (fun _ => ?_)) | (refine And.intro (fun h => Bool.noConfusion ((beq_self_eq_true _).symm.trans h)) (fun _ => ?_)) | (refine And.intro (fun _ => ?_) (fun h => Bool.noConfusion ((bne_self_eq_false _).symm.trans h))) | (refine ⟨_, h, ?_⟩) | (refine ⟨[], [0, 0, 1, 7, 15], by kernel_rfl, ?_⟩) | (refine ⟨[], [0, 0, 0, 5, 15], by kernel_rfl, ?_⟩) | (exact True.intro) | (refine And.intro (show eqT _ _ = true by kernel_rfl) ?_) | (refine And.intro rfl ?_) | (refine And.intro (And.intro (Nat.le_of_ble_eq_true rfl) rfl) ?_) | (refine br_lt ?_ ?_ <;> intro h <;> (first | (exfalso; omega) | (exfalso; contradiction) | (exfalso; exact h rfl) | skip)) | (refine br_lt_ ?_ ?_ <;> intro h <;> (first | (exfalso; omega) | (exfalso; contradiction) | (exfalso; exact h rfl) | skip)) | (refine br_le ?_ ?_ <;> intro h <;> (first | (exfalso; omega) | (exfalso; contradiction) | (exfalso; exact h rfl) | skip)) | (refine br_le_ ?_ ?_ <;> intro h <;> (first | (exfalso; omega) | (exfalso; contradiction) | (exfalso; exact h rfl) | skip)) | (refine br_eq ?_ ?_ <;> intro h <;> (first | (exfalso; omega) | (exfalso; contradiction) | (exfalso; exact h rfl) | skip)) | (refine br_eq_ ?_ ?_ <;> intro h <;> (first | (exfalso; omega) | (exfalso; contradiction) | (exfalso; exact h rfl) | skip)) | (refine br_seq ?_ ?_ <;> intro h <;> (first | (exfalso; omega) | (exfalso; contradiction) | (exfalso; exact h rfl) | skip)) | (refine br_seq_ ?_ ?_ <;> intro h <;> (first | (exfalso; omega) | (exfalso; contradiction) | (exfalso; exact h rfl) | skip)) | (refine br_not ?_) | (refine br_not_ ?_) | (refine br_and ?_) | (refine br_and_ ?_) | (refine And.intro (by omega) ?_) | (refine ⟨_, wrap_i64 (by omega), ?_⟩) | (refine ⟨_, wrap_u64 (by omega) (by omega), ?_⟩) | (refine ⟨_, wrap_u8 (by omega) (by omega), ?_⟩) | (refine ⟨_, wrap_u32 (by omega) (by omega), ?_⟩) | (refine ⟨_, wrap_u16 (by omega) (by omega), ?_⟩) | (refine ⟨_, rfl, ?_⟩) | (exact rfl)))
theorem rparse_no (t : List UInt8) (x1 x2 : Nat) (p1 b1 p2 b2 c : Int) (tx : List UInt8) (hc : c ≠ 0) (h1 : SP 22 [.ex (scV t 0 0), Z 6] (numT x1 t p1 b1)) (h2 : SP 22 [.ex (scV t p1 b1), Z 6] (numT x2 t p2 b2))
    (h : SP 35 [cnt x1 x2] (.tup [T tx, Z c])) : SP 37 [T t] (.tup [cnt 0 0, Z 4]) := by
  refine S_ Try.func37 (by kernel_rfl) rfl (Nat.le_of_ble_eq_true rfl) ?_
  show avc Try.prog SP _ _ _ _ _ _
  dsimp only [avc, aops, startS, Array.toList, Try.f37]
  repeat' (first | (refine And.intro (fun _ => ?_) (fun h => Bool.noConfusion h)) | (refine And.intro (fun h => Bool.noConfusion h) (fun _ => ?_)) | (refine And.intro (Nat.le_of_ble_eq_true rfl) ?_))
  refine ⟨_, h1, ?_⟩
  repeat' (first | (refine And.intro (fun _ => ?_) (fun h => Bool.noConfusion h)) | (refine And.intro (fun h => Bool.noConfusion h) (fun _ => ?_)) | (refine And.intro (Nat.le_of_ble_eq_true rfl) ?_))
  refine ⟨_, h2, ?_⟩
  repeat' (first | (refine And.intro (fun _ => ?_) (fun h => Bool.noConfusion h)) | (refine And.intro (fun h => Bool.noConfusion h) (fun _ => ?_)) | (refine And.intro (Nat.le_of_ble_eq_true rfl) ?_))
  refine ⟨_, h, ?_⟩
  refine And.intro (fun h1 => ?_) (fun h1 => ?_)
  · have h1 : (c != 0) = false := h1
    exact absurd h1 (by simp [hc])
  repeat' (first | (refine And.intro (fun _ => ?_) (fun h => Bool.noConfusion h)) | (refine And.intro (fun h => Bool.noConfusion h) (fun _ => ?_)) | (refine And.intro (Nat.le_of_ble_eq_true rfl) ?_))
  repeat' (first | (exact True.intro) | (exact rfl) | (exact And.intro rfl (And.intro rfl rfl)) | (exact And.intro rfl rfl) | (refine And.intro (Nat.le_of_ble_eq_true rfl) ?_) | (refine And.intro ?_ ?_))
theorem bsl (l : List UInt8) : (bs l).toList = l := by
  rw [ByteArray.toList_eq]; simp [bs]
theorem rparse_ne (t : List UInt8) (x1 x2 : Nat) (p1 b1 p2 b2 : Int) (tx : List UInt8) (hc : tx ≠ t) (h1 : SP 22 [.ex (scV t 0 0), Z 6] (numT x1 t p1 b1)) (h2 : SP 22 [.ex (scV t p1 b1), Z 6] (numT x2 t p2 b2))
    (h : SP 35 [cnt x1 x2] (.tup [T tx, Z 0])) : SP 37 [T t] (.tup [cnt 0 0, Z 4]) := by
  refine S_ Try.func37 (by kernel_rfl) rfl (Nat.le_of_ble_eq_true rfl) ?_
  show avc Try.prog SP _ _ _ _ _ _
  dsimp only [avc, aops, startS, Array.toList, Try.f37]
  repeat' (first | (refine And.intro (fun _ => ?_) (fun h => Bool.noConfusion h)) | (refine And.intro (fun h => Bool.noConfusion h) (fun _ => ?_)) | (refine And.intro (Nat.le_of_ble_eq_true rfl) ?_))
  refine ⟨_, h1, ?_⟩
  repeat' (first | (refine And.intro (fun _ => ?_) (fun h => Bool.noConfusion h)) | (refine And.intro (fun h => Bool.noConfusion h) (fun _ => ?_)) | (refine And.intro (Nat.le_of_ble_eq_true rfl) ?_))
  refine ⟨_, h2, ?_⟩
  repeat' (first | (refine And.intro (fun _ => ?_) (fun h => Bool.noConfusion h)) | (refine And.intro (fun h => Bool.noConfusion h) (fun _ => ?_)) | (refine And.intro (Nat.le_of_ble_eq_true rfl) ?_))
  refine ⟨_, h, ?_⟩
  repeat' (first | (refine And.intro (fun _ => ?_) (fun h => Bool.noConfusion h)) | (refine And.intro (fun h => Bool.noConfusion h) (fun _ => ?_)) | (refine And.intro (Nat.le_of_ble_eq_true rfl) ?_))
  refine And.intro (fun h3 => ?_) (fun h3 => ?_)
  · repeat' (first | (refine And.intro (fun _ => ?_) (fun h => Bool.noConfusion h)) | (refine And.intro (fun h => Bool.noConfusion h) (fun _ => ?_)) | (refine And.intro (Nat.le_of_ble_eq_true rfl) ?_))
    repeat' (first | (exact True.intro) | (exact rfl) | (exact And.intro rfl (And.intro rfl rfl)) | (exact And.intro rfl rfl) | (refine And.intro (Nat.le_of_ble_eq_true rfl) ?_) | (refine And.intro ?_ ?_))
  · have h3 : (!((bs tx).toList == (bs t).toList)) = false := h3
    exact absurd h3 (by rw [bsl, bsl]; simp [hc])
theorem rparse_eq (t : List UInt8) (x1 x2 : Nat) (p1 b1 p2 b2 : Int) (h1 : SP 22 [.ex (scV t 0 0), Z 6] (numT x1 t p1 b1)) (h2 : SP 22 [.ex (scV t p1 b1), Z 6] (numT x2 t p2 b2))
    (h : SP 35 [cnt x1 x2] (.tup [T t, Z 0])) : SP 37 [T t] (.tup [cnt x1 x2, Z 0]) := by
  refine S_ Try.func37 (by kernel_rfl) rfl (Nat.le_of_ble_eq_true rfl) ?_
  show avc Try.prog SP _ _ _ _ _ _
  dsimp only [avc, aops, startS, Array.toList, Try.f37]
  repeat' (first | (refine And.intro (fun _ => ?_) (fun h => Bool.noConfusion h)) | (refine And.intro (fun h => Bool.noConfusion h) (fun _ => ?_)) | (refine And.intro (Nat.le_of_ble_eq_true rfl) ?_))
  refine ⟨_, h1, ?_⟩
  repeat' (first | (refine And.intro (fun _ => ?_) (fun h => Bool.noConfusion h)) | (refine And.intro (fun h => Bool.noConfusion h) (fun _ => ?_)) | (refine And.intro (Nat.le_of_ble_eq_true rfl) ?_))
  refine ⟨_, h2, ?_⟩
  repeat' (first | (refine And.intro (fun _ => ?_) (fun h => Bool.noConfusion h)) | (refine And.intro (fun h => Bool.noConfusion h) (fun _ => ?_)) | (refine And.intro (Nat.le_of_ble_eq_true rfl) ?_))
  refine ⟨_, h, ?_⟩
  repeat' (first | (refine And.intro (fun _ => ?_) (fun h => Bool.noConfusion h)) | (refine And.intro (fun h => Bool.noConfusion h) (fun _ => ?_)) | (refine And.intro (Nat.le_of_ble_eq_true rfl) ?_))
  refine And.intro (fun h3 => ?_) (fun h3 => ?_)
  · have h3 : (!((bs t).toList == (bs t).toList)) = true := h3
    exact absurd h3 (by simp)
  · repeat' (first | (refine And.intro (fun _ => ?_) (fun h => Bool.noConfusion h)) | (refine And.intro (fun h => Bool.noConfusion h) (fun _ => ?_)) | (refine And.intro (Nat.le_of_ble_eq_true rfl) ?_))
    repeat' (first | (exact True.intro) | (exact rfl) | (exact And.intro rfl (And.intro rfl rfl)) | (exact And.intro rfl rfl) | (refine And.intro (Nat.le_of_ble_eq_true rfl) ?_) | (refine And.intro ?_ ?_))
end Go.Proofs.Ytfonmnodjmeigaa.Av
