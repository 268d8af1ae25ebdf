/- batch: ops taken of bytes, walked. No conditions but that sizes stay far below what memory holds. -/
import Derived.Test.YtdicpbecdhaphaaBatch4
import Derived.Test.YtdicpbecdhaphaaScanNumSnd
import Derived.Test.YtdicpbecdhaphaaScanWalks4
namespace Go.Proofs.Ytdicpbecdhaphaa.Av
open Go Go.RowKit Tre
set_option linter.unusedVariables false
set_option linter.unusedSimpArgs false
set_option maxRecDepth 100000
set_option maxHeartbeats 1000000

theorem scanrow_snd (t : List UInt8) (p b : Int) (hl : t.length ≤ 70368744177664) : SP 103 [scM t p b] (.ex (.tuple #[.string (bs (Quill.Sc.row ⟨t, p, b⟩).1), .agg #[.string (bs t), .int .i64 (Quill.Sc.row ⟨t, p, b⟩).2.pos, .int .i64 (Quill.Sc.row ⟨t, p, b⟩).2.bad]])) :=
  sound_ex (vs := [_]) Try.func103 (by kernel_rfl) rfl (fun w => srow ⟨t, p, b⟩ w hl)
theorem scanend_snd (t : List UInt8) (p b : Int) (hl : t.length ≤ 70368744177664) : SP 76 [scM t p b] (Z (Quill.Sc.fin ⟨t, p, b⟩)) :=
  sound_ex (vs := [_]) Try.func76 (by kernel_rfl) rfl (fun w => sfin ⟨t, p, b⟩ w (by simp only; omega))
abbrev rowM (k : List UInt8) (t : List UInt8) (p b : Int) : AV := .ex (.tuple #[.string (bs k), .agg #[.string (bs t), .int .i64 p, .int .i64 b]])
/-- scanOp, where a number is not scanned -/
theorem scanOp_bad (t : List UInt8) (p b p1 b1 : Int) (n : Nat) (hb : b1 ≠ 0) (cn : SP 74 [scM t p b, Z 1] (numM n t p1 b1)) :
    SP 75 [scM t p b] (.tup [.ex (.agg #[.int .u8 0, .string (bs []), .string (bs [])]), scM t p1 b1]) := by
  refine S_ Try.func75 (by kernel_rfl) rfl (Nat.le_of_ble_eq_true rfl) ?_
  show avc Try.prog SP _ _ _ _ _ _
  dsimp only [avc, startS, Array.toList, Try.f75]
  repeat' ((try conv => whnf) <;> (first | (refine Hold.mk ?_) | (refine And.intro (fun _ => ?_) (fun h => Bool.noConfusion h)) | (refine And.intro (fun h => Bool.noConfusion h) (fun _ => ?_)) | (refine And.intro (Nat.le_of_ble_eq_true rfl) ?_) | (refine And.intro (fun _ => ?_) (fun h => Bool.noConfusion ((beq_self_eq_true _).symm.trans h))) | (refine And.intro (fun h => Bool.noConfusion ((bne_self_eq_false _).symm.trans h)) (fun _ => ?_)) | (refine And.intro (fun h => Bool.noConfusion ((beq_self_eq_true _).symm.trans h)) (fun _ => ?_)) | (refine And.intro (fun _ => ?_) (fun h => Bool.noConfusion ((bne_self_eq_false _).symm.trans h))) | (refine ⟨_, cn, ?_⟩) | (refine ⟨[], [0, 0, 1, 7], len_ok rfl (by kernel_rfl), ?_⟩) | (exact True.intro) | (refine And.intro (show eqT _ _ = true by kernel_rfl) ?_) | (refine And.intro rfl ?_) | (refine And.intro (And.intro (Nat.le_of_ble_eq_true rfl) rfl) ?_) | (refine And.intro (And.intro rfl rfl) ?_) | (refine And.intro (And.intro rfl (And.intro rfl rfl)) ?_) | (exact And.intro rfl (And.intro rfl rfl)) | (exact And.intro rfl rfl) | (refine br_lt ?_ ?_ <;> intro hBr <;> (first | (exfalso; omega) | (exfalso; contradiction) | (exfalso; exact hBr rfl) | skip)) | (refine br_lt_ ?_ ?_ <;> intro hBr <;> (first | (exfalso; omega) | (exfalso; contradiction) | (exfalso; exact hBr rfl) | skip)) | (refine br_le ?_ ?_ <;> intro hBr <;> (first | (exfalso; omega) | (exfalso; contradiction) | (exfalso; exact hBr rfl) | skip)) | (refine br_le_ ?_ ?_ <;> intro hBr <;> (first | (exfalso; omega) | (exfalso; contradiction) | (exfalso; exact hBr rfl) | skip)) | (refine br_eq ?_ ?_ <;> intro hBr <;> (first | (exfalso; omega) | (exfalso; contradiction) | (exfalso; exact hBr rfl) | skip)) | (refine br_eq_ ?_ ?_ <;> intro hBr <;> (first | (exfalso; omega) | (exfalso; contradiction) | (exfalso; exact hBr rfl) | skip)) | (refine br_seq ?_ ?_ <;> intro hBr <;> (first | (exfalso; omega) | (exfalso; contradiction) | (exfalso; exact hBr rfl) | skip)) | (refine br_seq_ ?_ ?_ <;> intro hBr <;> (first | (exfalso; omega) | (exfalso; contradiction) | (exfalso; exact hBr rfl) | skip)) | (refine br_not ?_) | (refine br_not_ ?_) | (refine br_and ?_) | (refine br_and_ ?_) | (refine And.intro (by omega) ?_) | (refine ⟨_, wrap_i64 (by omega), ?_⟩) | (refine ⟨_, wrap_u64 (by omega) (by omega), ?_⟩) | (refine ⟨_, wrap_u8 (by omega) (by omega), ?_⟩) | (refine ⟨_, wrap_u32 (by omega) (by omega), ?_⟩) | (refine ⟨_, wrap_u16 (by omega) (by omega), ?_⟩) | (refine ⟨_, rfl, ?_⟩) | (exact rfl)))
theorem scanOp_kind (t : List UInt8) (p b p1 : Int) (n : Nat) (hn : n < 256) (hk : n < 1 ∨ 3 < n) (cn : SP 74 [scM t p b, Z 1] (numM n t p1 0)) :
    SP 75 [scM t p b] (.tup [.ex (.agg #[.int .u8 n, .string (bs []), .string (bs [])]), scM t p1 22]) := by
  refine S_ Try.func75 (by kernel_rfl) rfl (Nat.le_of_ble_eq_true rfl) ?_
  show avc Try.prog SP _ _ _ _ _ _
  dsimp only [avc, startS, Array.toList, Try.f75]
  repeat' ((try conv => whnf) <;> (first | (refine Hold.mk ?_) | (refine And.intro (fun _ => ?_) (fun h => Bool.noConfusion h)) | (refine And.intro (fun h => Bool.noConfusion h) (fun _ => ?_)) | (refine And.intro (Nat.le_of_ble_eq_true rfl) ?_) | (refine And.intro (fun _ => ?_) (fun h => Bool.noConfusion ((beq_self_eq_true _).symm.trans h))) | (refine And.intro (fun h => Bool.noConfusion ((bne_self_eq_false _).symm.trans h)) (fun _ => ?_)) | (refine And.intro (fun h => Bool.noConfusion ((beq_self_eq_true _).symm.trans h)) (fun _ => ?_)) | (refine And.intro (fun _ => ?_) (fun h => Bool.noConfusion ((bne_self_eq_false _).symm.trans h))) | (refine ⟨_, cn, ?_⟩) | (refine ⟨[], [0, 0, 1, 7], len_ok rfl (by kernel_rfl), ?_⟩) | (exact True.intro) | (refine And.intro (show eqT _ _ = true by kernel_rfl) ?_) | (refine And.intro rfl ?_) | (refine And.intro (And.intro (Nat.le_of_ble_eq_true rfl) rfl) ?_) | (refine And.intro (And.intro rfl rfl) ?_) | (refine And.intro (And.intro rfl (And.intro rfl rfl)) ?_) | (exact And.intro rfl (And.intro rfl rfl)) | (exact And.intro rfl rfl) | (refine br_lt ?_ ?_ <;> intro hBr <;> (first | (exfalso; omega) | (exfalso; contradiction) | (exfalso; exact hBr rfl) | skip)) | (refine br_lt_ ?_ ?_ <;> intro hBr <;> (first | (exfalso; omega) | (exfalso; contradiction) | (exfalso; exact hBr rfl) | skip)) | (refine br_le ?_ ?_ <;> intro hBr <;> (first | (exfalso; omega) | (exfalso; contradiction) | (exfalso; exact hBr rfl) | skip)) | (refine br_le_ ?_ ?_ <;> intro hBr <;> (first | (exfalso; omega) | (exfalso; contradiction) | (exfalso; exact hBr rfl) | skip)) | (refine br_eq ?_ ?_ <;> intro hBr <;> (first | (exfalso; omega) | (exfalso; contradiction) | (exfalso; exact hBr rfl) | skip)) | (refine br_eq_ ?_ ?_ <;> intro hBr <;> (first | (exfalso; omega) | (exfalso; contradiction) | (exfalso; exact hBr rfl) | skip)) | (refine br_seq ?_ ?_ <;> intro hBr <;> (first | (exfalso; omega) | (exfalso; contradiction) | (exfalso; exact hBr rfl) | skip)) | (refine br_seq_ ?_ ?_ <;> intro hBr <;> (first | (exfalso; omega) | (exfalso; contradiction) | (exfalso; exact hBr rfl) | skip)) | (refine br_not ?_) | (refine br_not_ ?_) | (refine br_and ?_) | (refine br_and_ ?_) | (refine And.intro (by omega) ?_) | (refine ⟨_, wrap_i64 (by omega), ?_⟩) | (refine ⟨_, wrap_u64 (by omega) (by omega), ?_⟩) | (refine ⟨_, wrap_u8 (by omega) (by omega), ?_⟩) | (refine ⟨_, wrap_u32 (by omega) (by omega), ?_⟩) | (refine ⟨_, wrap_u16 (by omega) (by omega), ?_⟩) | (refine ⟨_, rfl, ?_⟩) | (exact rfl)))
theorem scanOp_two (t : List UInt8) (p b p1 p2 b2 p3 b3 e : Int) (k v : List UInt8) (cn : SP 74 [scM t p b, Z 1] (numM 1 t p1 0)) (cr : SP 103 [scM t p1 0] (rowM k t p2 b2)) (cr2 : SP 103 [scM t p2 b2] (rowM v t p3 b3))
    (cc : b3 = 0 → SP 77 [.ex (.agg #[.int .u8 1, .string (bs k), .string (bs v)])] (Z e)) (r : Int) (hr0 : b3 = 0 → r = e) (hr1 : b3 ≠ 0 → r = b3) :
    SP 75 [scM t p b] (.tup [.ex (.agg #[.int .u8 1, .string (bs k), .string (bs v)]), scM t p3 r]) := by
  by_cases h : b3 = 0
  · obtain rfl := hr0 h
    have c := cc h
    subst h
    clear cc hr0 hr1
    refine S_ Try.func75 (by kernel_rfl) rfl (Nat.le_of_ble_eq_true rfl) ?_
    show avc Try.prog SP _ _ _ _ _ _
    dsimp only [avc, startS, Array.toList, Try.f75]
    repeat' ((try conv => whnf) <;> (first | (refine Hold.mk ?_) | (refine And.intro (fun _ => ?_) (fun h => Bool.noConfusion h)) | (refine And.intro (fun h => Bool.noConfusion h) (fun _ => ?_)) | (refine And.intro (Nat.le_of_ble_eq_true rfl) ?_) | (refine And.intro (fun _ => ?_) (fun h => Bool.noConfusion ((beq_self_eq_true _).symm.trans h))) | (refine And.intro (fun h => Bool.noConfusion ((bne_self_eq_false _).symm.trans h)) (fun _ => ?_)) | (refine And.intro (fun h => Bool.noConfusion ((beq_self_eq_true _).symm.trans h)) (fun _ => ?_)) | (refine And.intro (fun _ => ?_) (fun h => Bool.noConfusion ((bne_self_eq_false _).symm.trans h))) | (refine ⟨_, cn, ?_⟩) | (refine ⟨_, cr, ?_⟩) | (refine ⟨_, cr2, ?_⟩) | (refine ⟨_, c, ?_⟩) | (refine ⟨[], [0, 0, 1, 7], len_ok rfl (by kernel_rfl), ?_⟩) | (exact True.intro) | (refine And.intro (show eqT _ _ = true by kernel_rfl) ?_) | (refine And.intro rfl ?_) | (refine And.intro (And.intro (Nat.le_of_ble_eq_true rfl) rfl) ?_) | (refine And.intro (And.intro rfl rfl) ?_) | (refine And.intro (And.intro rfl (And.intro rfl rfl)) ?_) | (exact And.intro rfl (And.intro rfl rfl)) | (exact And.intro rfl rfl) | (refine br_lt ?_ ?_ <;> intro hBr <;> (first | (exfalso; omega) | (exfalso; contradiction) | (exfalso; exact hBr rfl) | skip)) | (refine br_lt_ ?_ ?_ <;> intro hBr <;> (first | (exfalso; omega) | (exfalso; contradiction) | (exfalso; exact hBr rfl) | skip)) | (refine br_le ?_ ?_ <;> intro hBr <;> (first | (exfalso; omega) | (exfalso; contradiction) | (exfalso; exact hBr rfl) | skip)) | (refine br_le_ ?_ ?_ <;> intro hBr <;> (first | (exfalso; omega) | (exfalso; contradiction) | (exfalso; exact hBr rfl) | skip)) | (refine br_eq ?_ ?_ <;> intro hBr <;> (first | (exfalso; omega) | (exfalso; contradiction) | (exfalso; exact hBr rfl) | skip)) | (refine br_eq_ ?_ ?_ <;> intro hBr <;> (first | (exfalso; omega) | (exfalso; contradiction) | (exfalso; exact hBr rfl) | skip)) | (refine br_seq ?_ ?_ <;> intro hBr <;> (first | (exfalso; omega) | (exfalso; contradiction) | (exfalso; exact hBr rfl) | skip)) | (refine br_seq_ ?_ ?_ <;> intro hBr <;> (first | (exfalso; omega) | (exfalso; contradiction) | (exfalso; exact hBr rfl) | skip)) | (refine br_not ?_) | (refine br_not_ ?_) | (refine br_and ?_) | (refine br_and_ ?_) | (refine And.intro (by omega) ?_) | (refine ⟨_, wrap_i64 (by omega), ?_⟩) | (refine ⟨_, wrap_u64 (by omega) (by omega), ?_⟩) | (refine ⟨_, wrap_u8 (by omega) (by omega), ?_⟩) | (refine ⟨_, wrap_u32 (by omega) (by omega), ?_⟩) | (refine ⟨_, wrap_u16 (by omega) (by omega), ?_⟩) | (refine ⟨_, rfl, ?_⟩) | (exact rfl)))
  · obtain rfl := hr1 h
    clear cc hr0 hr1
    refine S_ Try.func75 (by kernel_rfl) rfl (Nat.le_of_ble_eq_true rfl) ?_
    show avc Try.prog SP _ _ _ _ _ _
    dsimp only [avc, startS, Array.toList, Try.f75]
    repeat' ((try conv => whnf) <;> (first | (refine Hold.mk ?_) | (refine And.intro (fun _ => ?_) (fun h => Bool.noConfusion h)) | (refine And.intro (fun h => Bool.noConfusion h) (fun _ => ?_)) | (refine And.intro (Nat.le_of_ble_eq_true rfl) ?_) | (refine And.intro (fun _ => ?_) (fun h => Bool.noConfusion ((beq_self_eq_true _).symm.trans h))) | (refine And.intro (fun h => Bool.noConfusion ((bne_self_eq_false _).symm.trans h)) (fun _ => ?_)) | (refine And.intro (fun h => Bool.noConfusion ((beq_self_eq_true _).symm.trans h)) (fun _ => ?_)) | (refine And.intro (fun _ => ?_) (fun h => Bool.noConfusion ((bne_self_eq_false _).symm.trans h))) | (refine ⟨_, cn, ?_⟩) | (refine ⟨_, cr, ?_⟩) | (refine ⟨_, cr2, ?_⟩) | (refine ⟨[], [0, 0, 1, 7], len_ok rfl (by kernel_rfl), ?_⟩) | (exact True.intro) | (refine And.intro (show eqT _ _ = true by kernel_rfl) ?_) | (refine And.intro rfl ?_) | (refine And.intro (And.intro (Nat.le_of_ble_eq_true rfl) rfl) ?_) | (refine And.intro (And.intro rfl rfl) ?_) | (refine And.intro (And.intro rfl (And.intro rfl rfl)) ?_) | (exact And.intro rfl (And.intro rfl rfl)) | (exact And.intro rfl rfl) | (refine br_lt ?_ ?_ <;> intro hBr <;> (first | (exfalso; omega) | (exfalso; contradiction) | (exfalso; exact hBr rfl) | skip)) | (refine br_lt_ ?_ ?_ <;> intro hBr <;> (first | (exfalso; omega) | (exfalso; contradiction) | (exfalso; exact hBr rfl) | skip)) | (refine br_le ?_ ?_ <;> intro hBr <;> (first | (exfalso; omega) | (exfalso; contradiction) | (exfalso; exact hBr rfl) | skip)) | (refine br_le_ ?_ ?_ <;> intro hBr <;> (first | (exfalso; omega) | (exfalso; contradiction) | (exfalso; exact hBr rfl) | skip)) | (refine br_eq ?_ ?_ <;> intro hBr <;> (first | (exfalso; omega) | (exfalso; contradiction) | (exfalso; exact hBr rfl) | skip)) | (refine br_eq_ ?_ ?_ <;> intro hBr <;> (first | (exfalso; omega) | (exfalso; contradiction) | (exfalso; exact hBr rfl) | skip)) | (refine br_seq ?_ ?_ <;> intro hBr <;> (first | (exfalso; omega) | (exfalso; contradiction) | (exfalso; exact hBr rfl) | skip)) | (refine br_seq_ ?_ ?_ <;> intro hBr <;> (first | (exfalso; omega) | (exfalso; contradiction) | (exfalso; exact hBr rfl) | skip)) | (refine br_not ?_) | (refine br_not_ ?_) | (refine br_and ?_) | (refine br_and_ ?_) | (refine And.intro (by omega) ?_) | (refine ⟨_, wrap_i64 (by omega), ?_⟩) | (refine ⟨_, wrap_u64 (by omega) (by omega), ?_⟩) | (refine ⟨_, wrap_u8 (by omega) (by omega), ?_⟩) | (refine ⟨_, wrap_u32 (by omega) (by omega), ?_⟩) | (refine ⟨_, wrap_u16 (by omega) (by omega), ?_⟩) | (refine ⟨_, rfl, ?_⟩) | (exact rfl)))
theorem scanOp_one (t : List UInt8) (p b p1 p2 b2 e : Int) (n : Nat) (hn : n = 2 ∨ n = 3) (k : List UInt8) (cn : SP 74 [scM t p b, Z 1] (numM n t p1 0)) (cr : SP 103 [scM t p1 0] (rowM k t p2 b2))
    (cc : b2 = 0 → SP 77 [.ex (.agg #[.int .u8 n, .string (bs k), .string (bs [])])] (Z e)) (r : Int) (hr0 : b2 = 0 → r = e) (hr1 : b2 ≠ 0 → r = b2) :
    SP 75 [scM t p b] (.tup [.ex (.agg #[.int .u8 n, .string (bs k), .string (bs [])]), scM t p2 r]) := by
  have g1 : ¬ (n : Int) = 1 := by omega
  by_cases h : b2 = 0
  · obtain rfl := hr0 h
    have c := cc h
    subst h
    clear cc hr0 hr1
    refine S_ Try.func75 (by kernel_rfl) rfl (Nat.le_of_ble_eq_true rfl) ?_
    show avc Try.prog SP _ _ _ _ _ _
    dsimp only [avc, startS, Array.toList, Try.f75]
    repeat' ((try conv => whnf) <;> (first | (refine Hold.mk ?_) | (refine And.intro (fun _ => ?_) (fun h => Bool.noConfusion h)) | (refine And.intro (fun h => Bool.noConfusion h) (fun _ => ?_)) | (refine And.intro (Nat.le_of_ble_eq_true rfl) ?_) | (refine And.intro (fun _ => ?_) (fun h => Bool.noConfusion ((beq_self_eq_true _).symm.trans h))) | (refine And.intro (fun h => Bool.noConfusion ((bne_self_eq_false _).symm.trans h)) (fun _ => ?_)) | (refine And.intro (fun h => Bool.noConfusion ((beq_self_eq_true _).symm.trans h)) (fun _ => ?_)) | (refine And.intro (fun _ => ?_) (fun h => Bool.noConfusion ((bne_self_eq_false _).symm.trans h))) | (refine ⟨_, cn, ?_⟩) | (refine ⟨_, cr, ?_⟩) | (refine ⟨_, c, ?_⟩) | (refine ⟨[], [0, 0, 1, 7], len_ok rfl (by kernel_rfl), ?_⟩) | (exact True.intro) | (refine And.intro (show eqT _ _ = true by kernel_rfl) ?_) | (refine And.intro rfl ?_) | (refine And.intro (And.intro (Nat.le_of_ble_eq_true rfl) rfl) ?_) | (refine And.intro (And.intro rfl rfl) ?_) | (refine And.intro (And.intro rfl (And.intro rfl rfl)) ?_) | (exact And.intro rfl (And.intro rfl rfl)) | (exact And.intro rfl rfl) | (refine br_lt ?_ ?_ <;> intro hBr <;> (first | (exfalso; omega) | (exfalso; contradiction) | (exfalso; exact hBr rfl) | skip)) | (refine br_lt_ ?_ ?_ <;> intro hBr <;> (first | (exfalso; omega) | (exfalso; contradiction) | (exfalso; exact hBr rfl) | skip)) | (refine br_le ?_ ?_ <;> intro hBr <;> (first | (exfalso; omega) | (exfalso; contradiction) | (exfalso; exact hBr rfl) | skip)) | (refine br_le_ ?_ ?_ <;> intro hBr <;> (first | (exfalso; omega) | (exfalso; contradiction) | (exfalso; exact hBr rfl) | skip)) | (refine br_eq ?_ ?_ <;> intro hBr <;> (first | (exfalso; omega) | (exfalso; contradiction) | (exfalso; exact hBr rfl) | skip)) | (refine br_eq_ ?_ ?_ <;> intro hBr <;> (first | (exfalso; omega) | (exfalso; contradiction) | (exfalso; exact hBr rfl) | skip)) | (refine br_seq ?_ ?_ <;> intro hBr <;> (first | (exfalso; omega) | (exfalso; contradiction) | (exfalso; exact hBr rfl) | skip)) | (refine br_seq_ ?_ ?_ <;> intro hBr <;> (first | (exfalso; omega) | (exfalso; contradiction) | (exfalso; exact hBr rfl) | skip)) | (refine br_not ?_) | (refine br_not_ ?_) | (refine br_and ?_) | (refine br_and_ ?_) | (refine And.intro (by omega) ?_) | (refine ⟨_, wrap_i64 (by omega), ?_⟩) | (refine ⟨_, wrap_u64 (by omega) (by omega), ?_⟩) | (refine ⟨_, wrap_u8 (by omega) (by omega), ?_⟩) | (refine ⟨_, wrap_u32 (by omega) (by omega), ?_⟩) | (refine ⟨_, wrap_u16 (by omega) (by omega), ?_⟩) | (refine ⟨_, rfl, ?_⟩) | (exact rfl)))
  · obtain rfl := hr1 h
    clear cc hr0 hr1
    refine S_ Try.func75 (by kernel_rfl) rfl (Nat.le_of_ble_eq_true rfl) ?_
    show avc Try.prog SP _ _ _ _ _ _
    dsimp only [avc, startS, Array.toList, Try.f75]
    repeat' ((try conv => whnf) <;> (first | (refine Hold.mk ?_) | (refine And.intro (fun _ => ?_) (fun h => Bool.noConfusion h)) | (refine And.intro (fun h => Bool.noConfusion h) (fun _ => ?_)) | (refine And.intro (Nat.le_of_ble_eq_true rfl) ?_) | (refine And.intro (fun _ => ?_) (fun h => Bool.noConfusion ((beq_self_eq_true _).symm.trans h))) | (refine And.intro (fun h => Bool.noConfusion ((bne_self_eq_false _).symm.trans h)) (fun _ => ?_)) | (refine And.intro (fun h => Bool.noConfusion ((beq_self_eq_true _).symm.trans h)) (fun _ => ?_)) | (refine And.intro (fun _ => ?_) (fun h => Bool.noConfusion ((bne_self_eq_false _).symm.trans h))) | (refine ⟨_, cn, ?_⟩) | (refine ⟨_, cr, ?_⟩) | (refine ⟨[], [0, 0, 1, 7], len_ok rfl (by kernel_rfl), ?_⟩) | (exact True.intro) | (refine And.intro (show eqT _ _ = true by kernel_rfl) ?_) | (refine And.intro rfl ?_) | (refine And.intro (And.intro (Nat.le_of_ble_eq_true rfl) rfl) ?_) | (refine And.intro (And.intro rfl rfl) ?_) | (refine And.intro (And.intro rfl (And.intro rfl rfl)) ?_) | (exact And.intro rfl (And.intro rfl rfl)) | (exact And.intro rfl rfl) | (refine br_lt ?_ ?_ <;> intro hBr <;> (first | (exfalso; omega) | (exfalso; contradiction) | (exfalso; exact hBr rfl) | skip)) | (refine br_lt_ ?_ ?_ <;> intro hBr <;> (first | (exfalso; omega) | (exfalso; contradiction) | (exfalso; exact hBr rfl) | skip)) | (refine br_le ?_ ?_ <;> intro hBr <;> (first | (exfalso; omega) | (exfalso; contradiction) | (exfalso; exact hBr rfl) | skip)) | (refine br_le_ ?_ ?_ <;> intro hBr <;> (first | (exfalso; omega) | (exfalso; contradiction) | (exfalso; exact hBr rfl) | skip)) | (refine br_eq ?_ ?_ <;> intro hBr <;> (first | (exfalso; omega) | (exfalso; contradiction) | (exfalso; exact hBr rfl) | skip)) | (refine br_eq_ ?_ ?_ <;> intro hBr <;> (first | (exfalso; omega) | (exfalso; contradiction) | (exfalso; exact hBr rfl) | skip)) | (refine br_seq ?_ ?_ <;> intro hBr <;> (first | (exfalso; omega) | (exfalso; contradiction) | (exfalso; exact hBr rfl) | skip)) | (refine br_seq_ ?_ ?_ <;> intro hBr <;> (first | (exfalso; omega) | (exfalso; contradiction) | (exfalso; exact hBr rfl) | skip)) | (refine br_not ?_) | (refine br_not_ ?_) | (refine br_and ?_) | (refine br_and_ ?_) | (refine And.intro (by omega) ?_) | (refine ⟨_, wrap_i64 (by omega), ?_⟩) | (refine ⟨_, wrap_u64 (by omega) (by omega), ?_⟩) | (refine ⟨_, wrap_u8 (by omega) (by omega), ?_⟩) | (refine ⟨_, wrap_u32 (by omega) (by omega), ?_⟩) | (refine ⟨_, wrap_u16 (by omega) (by omega), ?_⟩) | (refine ⟨_, rfl, ?_⟩) | (exact rfl)))
theorem row_len (t : List UInt8) (p b : Int) : (Quill.Sc.row ⟨t, p, b⟩).1.length ≤ t.length := by
  unfold Quill.Sc.row
  split
  · simp
  · split
    · simp
    · simp only [List.length_take, List.length_drop]; omega
theorem num_lt (t : List UInt8) (p b : Int) : (Quill.Sc.num ⟨t, p, b⟩ 1).1 < 256 := by
  unfold Quill.Sc.num
  split
  · simp
  · split
    · simp
    · split
      · simp
      · simp only
        have h := Quill.tell_lt ((t.drop p.toNat).take (1 : Int).toNat)
        have hl : ((t.drop p.toNat).take (1 : Int).toNat).length ≤ 1 := by rw [List.length_take]; exact Nat.min_le_left _ _
        exact Nat.lt_of_lt_of_le h (Nat.le_trans (Nat.pow_le_pow_right (by omega) hl) (by omega))
/-- a Scan, its text told apart -/
theorem sc_eta (s : Quill.Sc) (t : List UInt8) (h : s.text = t) : s = ⟨t, s.pos, s.bad⟩ := by subst h; rfl
theorem scanOp_ok (t : List UInt8) (p b : Int) (hl : t.length ≤ 1000000000) : SP 75 [scM t p b] (.tup [opA (scanP ⟨t, p, b⟩).1, scM t (scanP ⟨t, p, b⟩).2.pos (scanP ⟨t, p, b⟩).2.bad]) := by
  have cn := scannum_snd t p b 1 (by omega)
  have hn := num_lt t p b
  have et := Quill.Sc.num_text ⟨t, p, b⟩ 1
  have e1 := sc_eta _ _ et
  unfold scanP
  rw [e1]
  generalize (Quill.Sc.num ⟨t, p, b⟩ 1).2.pos = p1 at cn ⊢
  generalize (Quill.Sc.num ⟨t, p, b⟩ 1).2.bad = b1 at cn ⊢
  generalize (Quill.Sc.num ⟨t, p, b⟩ 1).1 = n at cn hn ⊢
  by_cases hb : b1 ≠ 0
  · rw [if_pos (show (Quill.Sc.mk t p1 b1).bad ≠ 0 from hb)]
    exact scanOp_bad t p b p1 b1 n hb cn
  rw [if_neg (show ¬ (Quill.Sc.mk t p1 b1).bad ≠ 0 from hb)]
  obtain rfl : b1 = 0 := by simpa using hb
  by_cases hk : n < 1 ∨ 3 < n
  · rw [if_pos hk]
    exact scanOp_kind t p b p1 n hn hk cn
  rw [if_neg hk]
  have cr := scanrow_snd t p1 0 (by omega)
  have hr1 := row_len t p1 0
  have e2 := sc_eta _ _ (Quill.Sc.row_text ⟨t, p1, 0⟩)
  rw [e2]
  generalize (Quill.Sc.row ⟨t, p1, 0⟩).2.pos = p2 at cr ⊢
  generalize (Quill.Sc.row ⟨t, p1, 0⟩).2.bad = b2 at cr ⊢
  generalize (Quill.Sc.row ⟨t, p1, 0⟩).1 = k at cr hr1 ⊢
  by_cases k1 : n = 1
  · rw [if_pos k1]
    subst k1
    have cr2 := scanrow_snd t p2 b2 (by omega)
    have hr2 := row_len t p2 b2
    have e3 := sc_eta _ _ (Quill.Sc.row_text ⟨t, p2, b2⟩)
    rw [e3]
    generalize (Quill.Sc.row ⟨t, p2, b2⟩).2.pos = p3 at cr2 ⊢
    generalize (Quill.Sc.row ⟨t, p2, b2⟩).2.bad = b3 at cr2 ⊢
    generalize (Quill.Sc.row ⟨t, p2, b2⟩).1 = v at cr2 hr2 ⊢
    have cc := opCheck_raw 1 k v (by omega) (by omega)
    by_cases h3 : b3 = 0
    · rw [if_pos (show (Quill.Sc.mk t p3 b3).bad = 0 from h3)]
      exact scanOp_two t p b p1 p2 b2 p3 b3 _ k v cn cr cr2 (fun _ => cc) _ (fun _ => rfl) (fun h => absurd h3 h)
    · rw [if_neg (show ¬ (Quill.Sc.mk t p3 b3).bad = 0 from h3)]
      exact scanOp_two t p b p1 p2 b2 p3 b3 0 k v cn cr cr2 (fun h => absurd h h3) _ (fun h => absurd h h3) (fun _ => rfl)
  · rw [if_neg k1]
    have cc := opCheck_raw n k [] (by omega) (by simp)
    by_cases h3 : b2 = 0
    · rw [if_pos (show (Quill.Sc.mk t p2 b2).bad = 0 from h3)]
      exact scanOp_one t p b p1 p2 b2 _ n (by omega) k cn cr (fun _ => cc) _ (fun _ => rfl) (fun h => absurd h3 h)
    · rw [if_neg (show ¬ (Quill.Sc.mk t p2 b2).bad = 0 from h3)]
      exact scanOp_one t p b p1 p2 b2 0 n (by omega) k cn cr (fun h => absurd h h3) _ (fun h => absurd h h3) (fun _ => rfl)
end Go.Proofs.Ytdicpbecdhaphaa.Av
