/- batch: the law BatchBack. No conditions. -/
import Derived.Test.YtdicpbecdhaphaaBatch8
namespace Go.Proofs.Ytdicpbecdhaphaa.Av
open Go Go.RowKit Go.ChangeShapes Go.WideShapes Tre
set_option linter.unusedVariables false
set_option linter.unusedSimpArgs false
set_option maxRecDepth 100000
set_option maxHeartbeats 2000000

abbrev two16 (a b : Nat) : AV := .ex (.agg #[.int .u16 a, .int .u16 b])
theorem bback_out (os : List OpP) (s : List UInt8) (n0 n1 : Nat) (aw : SP 33 [] (B true)) (h : SP 11 [.vs os.length (opC os)] (Z 1) ∨ SP 11 [.vs os.length (opC os)] (Z 0) ∧ 2000 < (bs s).size) :
    SP 9 [.vs os.length (opC os), T s, two16 n0 n1] (B true) := by
  rcases h with c1 | ⟨c1, h⟩
  · refine S_ Try.func9 (by kernel_rfl) rfl (Nat.le_of_ble_eq_true rfl) ?_ -- G
    repeat' ((try conv => whnf) <;> (first | (refine Hold.mk ?_) | (refine And.intro (fun _ => ?_) (fun h => Bool.noConfusion h)) | (refine And.intro (fun h => Bool.noConfusion h) (fun _ => ?_)) | (refine And.intro (Nat.le_of_ble_eq_true rfl) ?_) | (refine And.intro (fun _ => ?_) (fun h => Bool.noConfusion ((beq_self_eq_true _).symm.trans h))) | (refine And.intro (fun h => Bool.noConfusion ((bne_self_eq_false _).symm.trans h)) (fun _ => ?_)) | (refine And.intro (fun h => Bool.noConfusion ((beq_self_eq_true _).symm.trans h)) (fun _ => ?_)) | (refine And.intro (fun _ => ?_) (fun h => Bool.noConfusion ((bne_self_eq_false _).symm.trans h))) | (refine ⟨_, c1, ?_⟩) | (refine ⟨_, aw, ?_⟩) | (refine ⟨[], [0, 0, 2, 6, 0, 16, 62, 127, 255, 0, 512, 1536, 3584, 7680, 16383, 32767, 65535], len_ok rfl (by kernel_rfl), ?_⟩) | (exact True.intro) | (refine And.intro (show eqT _ _ = true by kernel_rfl) ?_) | (refine And.intro rfl ?_) | (refine And.intro (And.intro (Nat.le_of_ble_eq_true rfl) rfl) ?_) | (refine And.intro (And.intro rfl rfl) ?_) | (refine And.intro (And.intro rfl (And.intro rfl rfl)) ?_) | (exact And.intro rfl (And.intro rfl rfl)) | (exact And.intro rfl rfl) | (refine br_lt ?_ ?_ <;> intro hBr <;> (first | (exfalso; omega) | (exfalso; contradiction) | (exfalso; exact hBr rfl) | skip)) | (refine br_lt_ ?_ ?_ <;> intro hBr <;> (first | (exfalso; omega) | (exfalso; contradiction) | (exfalso; exact hBr rfl) | skip)) | (refine br_le ?_ ?_ <;> intro hBr <;> (first | (exfalso; omega) | (exfalso; contradiction) | (exfalso; exact hBr rfl) | skip)) | (refine br_le_ ?_ ?_ <;> intro hBr <;> (first | (exfalso; omega) | (exfalso; contradiction) | (exfalso; exact hBr rfl) | skip)) | (refine br_eq ?_ ?_ <;> intro hBr <;> (first | (exfalso; omega) | (exfalso; contradiction) | (exfalso; exact hBr rfl) | skip)) | (refine br_eq_ ?_ ?_ <;> intro hBr <;> (first | (exfalso; omega) | (exfalso; contradiction) | (exfalso; exact hBr rfl) | skip)) | (refine br_seq ?_ ?_ <;> intro hBr <;> (first | (exfalso; omega) | (exfalso; contradiction) | (exfalso; exact hBr rfl) | skip)) | (refine br_seq_ ?_ ?_ <;> intro hBr <;> (first | (exfalso; omega) | (exfalso; contradiction) | (exfalso; exact hBr rfl) | skip)) | (refine br_not ?_) | (refine br_not_ ?_) | (refine br_and ?_) | (refine br_and_ ?_) | (refine And.intro (by omega) ?_) | (refine ⟨_, wrap_i64 (by omega), ?_⟩) | (refine ⟨_, wrap_u64 (by omega) (by omega), ?_⟩) | (refine ⟨_, wrap_u8 (by omega) (by omega), ?_⟩) | (refine ⟨_, wrap_u32 (by omega) (by omega), ?_⟩) | (refine ⟨_, wrap_u16 (by omega) (by omega), ?_⟩) | (refine ⟨_, rfl, ?_⟩) | (exact rfl)))
  · refine S_ Try.func9 (by kernel_rfl) rfl (Nat.le_of_ble_eq_true rfl) ?_ -- G
    repeat' ((try conv => whnf) <;> (first | (refine Hold.mk ?_) | (refine And.intro (fun _ => ?_) (fun h => Bool.noConfusion h)) | (refine And.intro (fun h => Bool.noConfusion h) (fun _ => ?_)) | (refine And.intro (Nat.le_of_ble_eq_true rfl) ?_) | (refine And.intro (fun _ => ?_) (fun h => Bool.noConfusion ((beq_self_eq_true _).symm.trans h))) | (refine And.intro (fun h => Bool.noConfusion ((bne_self_eq_false _).symm.trans h)) (fun _ => ?_)) | (refine And.intro (fun h => Bool.noConfusion ((beq_self_eq_true _).symm.trans h)) (fun _ => ?_)) | (refine And.intro (fun _ => ?_) (fun h => Bool.noConfusion ((bne_self_eq_false _).symm.trans h))) | (refine ⟨_, c1, ?_⟩) | (refine ⟨_, aw, ?_⟩) | (refine ⟨[], [0, 0, 2, 6, 0, 16, 62, 127, 255, 0, 512, 1536, 3584, 7680, 16383, 32767, 65535], len_ok rfl (by kernel_rfl), ?_⟩) | (exact True.intro) | (refine And.intro (show eqT _ _ = true by kernel_rfl) ?_) | (refine And.intro rfl ?_) | (refine And.intro (And.intro (Nat.le_of_ble_eq_true rfl) rfl) ?_) | (refine And.intro (And.intro rfl rfl) ?_) | (refine And.intro (And.intro rfl (And.intro rfl rfl)) ?_) | (exact And.intro rfl (And.intro rfl rfl)) | (exact And.intro rfl rfl) | (refine br_lt ?_ ?_ <;> intro hBr <;> (first | (exfalso; omega) | (exfalso; contradiction) | (exfalso; exact hBr rfl) | skip)) | (refine br_lt_ ?_ ?_ <;> intro hBr <;> (first | (exfalso; omega) | (exfalso; contradiction) | (exfalso; exact hBr rfl) | skip)) | (refine br_le ?_ ?_ <;> intro hBr <;> (first | (exfalso; omega) | (exfalso; contradiction) | (exfalso; exact hBr rfl) | skip)) | (refine br_le_ ?_ ?_ <;> intro hBr <;> (first | (exfalso; omega) | (exfalso; contradiction) | (exfalso; exact hBr rfl) | skip)) | (refine br_eq ?_ ?_ <;> intro hBr <;> (first | (exfalso; omega) | (exfalso; contradiction) | (exfalso; exact hBr rfl) | skip)) | (refine br_eq_ ?_ ?_ <;> intro hBr <;> (first | (exfalso; omega) | (exfalso; contradiction) | (exfalso; exact hBr rfl) | skip)) | (refine br_seq ?_ ?_ <;> intro hBr <;> (first | (exfalso; omega) | (exfalso; contradiction) | (exfalso; exact hBr rfl) | skip)) | (refine br_seq_ ?_ ?_ <;> intro hBr <;> (first | (exfalso; omega) | (exfalso; contradiction) | (exfalso; exact hBr rfl) | skip)) | (refine br_not ?_) | (refine br_not_ ?_) | (refine br_and ?_) | (refine br_and_ ?_) | (refine And.intro (by omega) ?_) | (refine ⟨_, wrap_i64 (by omega), ?_⟩) | (refine ⟨_, wrap_u64 (by omega) (by omega), ?_⟩) | (refine ⟨_, wrap_u8 (by omega) (by omega), ?_⟩) | (refine ⟨_, wrap_u32 (by omega) (by omega), ?_⟩) | (refine ⟨_, wrap_u16 (by omega) (by omega), ?_⟩) | (refine ⟨_, rfl, ?_⟩) | (exact rfl)))
/-- a byte turned -/
abbrev newC (b : UInt8) (q : Int) : Int := IntKind.u8.wrap ((BitVec.ofInt IntKind.u8.bits (b.toNat : Int) ^^^ BitVec.ofInt IntKind.u8.bits q).toNat : Int)
theorem bback_no (os : List OpP) (s t : List UInt8) (n0 n1 : Nat) (m : List OpP) (e f : Int) (he : e ≠ 0) (hs : (bs s).size ≤ 2000) (aw : SP 33 [] (B true)) (c1 : SP 11 [.vs os.length (opC os)] (Z 0))
    (w1 : SP 20 [.vs os.length (opC os)] (.vs os.length (opC os))) (ce : SP 40 [.vs os.length (opC os)] (.tup [T t, Z e]))
    (d2 : SP 41 [T s] (.tup [.vs m.length (opC m), Z f])) (e2 : f = 0 → SP 40 [.vs m.length (opC m)] (.tup [T s, Z 0])) :
    SP 9 [.vs os.length (opC os), T s, two16 n0 n1] (B true) := by
  by_cases hf : f = 0
  · have g2 := e2 hf
    clear e2
    subst hf
    refine S_ Try.func9 (by kernel_rfl) rfl (Nat.le_of_ble_eq_true rfl) ?_
    show avc Try.prog SP _ _ _ _ _ _
    dsimp only [avc, startS, Array.toList, Try.f9]
    repeat' ((try conv => whnf) <;> (first | (refine Hold.mk ?_) | (refine And.intro (fun _ => ?_) (fun h => Bool.noConfusion h)) | (refine And.intro (fun h => Bool.noConfusion h) (fun _ => ?_)) | (refine And.intro (Nat.le_of_ble_eq_true rfl) ?_) | (refine And.intro (fun _ => ?_) (fun h => Bool.noConfusion ((beq_self_eq_true _).symm.trans h))) | (refine And.intro (fun h => Bool.noConfusion ((bne_self_eq_false _).symm.trans h)) (fun _ => ?_)) | (refine And.intro (fun h => Bool.noConfusion ((beq_self_eq_true _).symm.trans h)) (fun _ => ?_)) | (refine And.intro (fun _ => ?_) (fun h => Bool.noConfusion ((bne_self_eq_false _).symm.trans h))) | (refine ⟨_, c1, ?_⟩) | (refine ⟨_, aw, ?_⟩) | (refine ⟨_, w1, ?_⟩) | (refine ⟨_, ce, ?_⟩) | (refine ⟨_, d2, ?_⟩) | (refine ⟨_, g2, ?_⟩) | (refine ⟨[], [0, 0, 2, 6, 0, 16, 62, 127, 255, 0, 512, 1536, 3584, 7680, 16383, 32767, 65535], len_ok rfl (by kernel_rfl), ?_⟩) | (exact True.intro) | (refine And.intro (show eqT _ _ = true by kernel_rfl) ?_) | (refine And.intro rfl ?_) | (refine And.intro (And.intro (Nat.le_of_ble_eq_true rfl) rfl) ?_) | (refine And.intro (And.intro rfl rfl) ?_) | (refine And.intro (And.intro rfl (And.intro rfl rfl)) ?_) | (exact And.intro rfl (And.intro rfl rfl)) | (exact And.intro rfl rfl) | (refine br_lt ?_ ?_ <;> intro hBr <;> (first | (exfalso; omega) | (exfalso; contradiction) | (exfalso; exact hBr rfl) | skip)) | (refine br_lt_ ?_ ?_ <;> intro hBr <;> (first | (exfalso; omega) | (exfalso; contradiction) | (exfalso; exact hBr rfl) | skip)) | (refine br_le ?_ ?_ <;> intro hBr <;> (first | (exfalso; omega) | (exfalso; contradiction) | (exfalso; exact hBr rfl) | skip)) | (refine br_le_ ?_ ?_ <;> intro hBr <;> (first | (exfalso; omega) | (exfalso; contradiction) | (exfalso; exact hBr rfl) | skip)) | (refine br_eq ?_ ?_ <;> intro hBr <;> (first | (exfalso; omega) | (exfalso; contradiction) | (exfalso; exact hBr rfl) | skip)) | (refine br_eq_ ?_ ?_ <;> intro hBr <;> (first | (exfalso; omega) | (exfalso; contradiction) | (exfalso; exact hBr rfl) | skip)) | (refine br_seq ?_ ?_ <;> intro hBr <;> (first | (exfalso; omega) | (exfalso; contradiction) | (exfalso; exact hBr rfl) | skip)) | (refine br_seq_ ?_ ?_ <;> intro hBr <;> (first | (exfalso; omega) | (exfalso; contradiction) | (exfalso; exact hBr rfl) | skip)) | (refine br_not ?_) | (refine br_not_ ?_) | (refine br_and ?_) | (refine br_and_ ?_) | (refine And.intro (by omega) ?_) | (refine ⟨_, wrap_i64 (by omega), ?_⟩) | (refine ⟨_, wrap_u64 (by omega) (by omega), ?_⟩) | (refine ⟨_, wrap_u8 (by omega) (by omega), ?_⟩) | (refine ⟨_, wrap_u32 (by omega) (by omega), ?_⟩) | (refine ⟨_, wrap_u16 (by omega) (by omega), ?_⟩) | (refine ⟨_, rfl, ?_⟩) | (exact rfl)))
  · clear e2
    refine S_ Try.func9 (by kernel_rfl) rfl (Nat.le_of_ble_eq_true rfl) ?_
    show avc Try.prog SP _ _ _ _ _ _
    dsimp only [avc, startS, Array.toList, Try.f9]
    repeat' ((try conv => whnf) <;> (first | (refine Hold.mk ?_) | (refine And.intro (fun _ => ?_) (fun h => Bool.noConfusion h)) | (refine And.intro (fun h => Bool.noConfusion h) (fun _ => ?_)) | (refine And.intro (Nat.le_of_ble_eq_true rfl) ?_) | (refine And.intro (fun _ => ?_) (fun h => Bool.noConfusion ((beq_self_eq_true _).symm.trans h))) | (refine And.intro (fun h => Bool.noConfusion ((bne_self_eq_false _).symm.trans h)) (fun _ => ?_)) | (refine And.intro (fun h => Bool.noConfusion ((beq_self_eq_true _).symm.trans h)) (fun _ => ?_)) | (refine And.intro (fun _ => ?_) (fun h => Bool.noConfusion ((bne_self_eq_false _).symm.trans h))) | (refine ⟨_, c1, ?_⟩) | (refine ⟨_, aw, ?_⟩) | (refine ⟨_, w1, ?_⟩) | (refine ⟨_, ce, ?_⟩) | (refine ⟨_, d2, ?_⟩) | (refine ⟨[], [0, 0, 2, 6, 0, 16, 62, 127, 255, 0, 512, 1536, 3584, 7680, 16383, 32767, 65535], len_ok rfl (by kernel_rfl), ?_⟩) | (exact True.intro) | (refine And.intro (show eqT _ _ = true by kernel_rfl) ?_) | (refine And.intro rfl ?_) | (refine And.intro (And.intro (Nat.le_of_ble_eq_true rfl) rfl) ?_) | (refine And.intro (And.intro rfl rfl) ?_) | (refine And.intro (And.intro rfl (And.intro rfl rfl)) ?_) | (exact And.intro rfl (And.intro rfl rfl)) | (exact And.intro rfl rfl) | (refine br_lt ?_ ?_ <;> intro hBr <;> (first | (exfalso; omega) | (exfalso; contradiction) | (exfalso; exact hBr rfl) | skip)) | (refine br_lt_ ?_ ?_ <;> intro hBr <;> (first | (exfalso; omega) | (exfalso; contradiction) | (exfalso; exact hBr rfl) | skip)) | (refine br_le ?_ ?_ <;> intro hBr <;> (first | (exfalso; omega) | (exfalso; contradiction) | (exfalso; exact hBr rfl) | skip)) | (refine br_le_ ?_ ?_ <;> intro hBr <;> (first | (exfalso; omega) | (exfalso; contradiction) | (exfalso; exact hBr rfl) | skip)) | (refine br_eq ?_ ?_ <;> intro hBr <;> (first | (exfalso; omega) | (exfalso; contradiction) | (exfalso; exact hBr rfl) | skip)) | (refine br_eq_ ?_ ?_ <;> intro hBr <;> (first | (exfalso; omega) | (exfalso; contradiction) | (exfalso; exact hBr rfl) | skip)) | (refine br_seq ?_ ?_ <;> intro hBr <;> (first | (exfalso; omega) | (exfalso; contradiction) | (exfalso; exact hBr rfl) | skip)) | (refine br_seq_ ?_ ?_ <;> intro hBr <;> (first | (exfalso; omega) | (exfalso; contradiction) | (exfalso; exact hBr rfl) | skip)) | (refine br_not ?_) | (refine br_not_ ?_) | (refine br_and ?_) | (refine br_and_ ?_) | (refine And.intro (by omega) ?_) | (refine ⟨_, wrap_i64 (by omega), ?_⟩) | (refine ⟨_, wrap_u64 (by omega) (by omega), ?_⟩) | (refine ⟨_, wrap_u8 (by omega) (by omega), ?_⟩) | (refine ⟨_, wrap_u32 (by omega) (by omega), ?_⟩) | (refine ⟨_, wrap_u16 (by omega) (by omega), ?_⟩) | (refine ⟨_, rfl, ?_⟩) | (exact rfl)))
theorem bback_yes (os : List OpP) (s t x : List UInt8) (n0 n1 : Nat) (m : List OpP) (z : Nat) (e f q : Int) (he : e ≠ 0) (hs : (bs s).size ≤ 2000) (hz : (bs t).size = z) (hz2 : z ≤ 1400) (hz0 : 0 < z) (hn0 : n0 < 65536) (hq0 : 1 ≤ q) (hq1 : q ≤ 255) (hq : IntKind.u16.wrap (1 + (n1 : Int).tmod 255) = q) (b : UInt8)
    (hat : (bytesA t)[mulS ((n0 : Int) % (bs t).size).toNat (sizeT Try.prog 5)]? = some (.ex (.int .u8 b.toNat))) (hset : setL (bytesA t) (mulS ((n0 : Int) % (bs t).size).toNat (sizeT Try.prog 5)) [.ex (.int .u8 (newC b q))] = bytesA x) (hxl : (bs t).size = x.length) (hidx : mulS ((n0 : Int) % (bs t).size).toNat (sizeT Try.prog 5) + 1 ≤ (bytesA t).length)
    (hbd : 0 ≤ (n0 : Int) % (bs t).size ∧ (n0 : Int) % (bs t).size < (bs t).size) (aw : SP 33 [] (B true)) (c1 : SP 11 [.vs os.length (opC os)] (Z 0))
    (w1 : SP 20 [.vs os.length (opC os)] (.vs os.length (opC os))) (ce : SP 40 [.vs os.length (opC os)] (.tup [T t, Z 0])) (cd : SP 41 [T t] (.tup [.vs os.length (opC os), Z 0])) (cs : SP 38 [.vs os.length (opC os), .vs os.length (opC os)] (B true)) (cz : SP 42 [.vs os.length (opC os)] (Z z)) (ck : SP 43 [.vs os.length (opC os)] (Z 0))
    (cx : SP 41 [T x] (.tup [.vs 0 [], Z e])) (d2 : SP 41 [T s] (.tup [.vs m.length (opC m), Z f])) (e2 : f = 0 → SP 40 [.vs m.length (opC m)] (.tup [T s, Z 0])) :
    SP 9 [.vs os.length (opC os), T s, two16 n0 n1] (B true) := by
  have hzI : ((bs t).size : Int) = (z : Int) := by omega
  have hbd2 := hbd.1
  have hbd3 := hbd.2
  by_cases hf : f = 0
  · have g2 := e2 hf
    clear e2
    subst hf
    refine S_ Try.func9 (by kernel_rfl) rfl (Nat.le_of_ble_eq_true rfl) ?_
    show avc Try.prog SP _ _ _ _ _ _
    dsimp only [avc, startS, Array.toList, Try.f9]
    repeat' ((try conv => whnf) <;> (first | (refine Hold.mk ?_) | (refine And.intro (fun _ => ?_) (fun h => Bool.noConfusion h)) | (refine And.intro (fun h => Bool.noConfusion h) (fun _ => ?_)) | (refine And.intro (Nat.le_of_ble_eq_true rfl) ?_) | (refine And.intro (fun _ => ?_) (fun h => Bool.noConfusion ((beq_self_eq_true _).symm.trans h))) | (refine And.intro (fun h => Bool.noConfusion ((bne_self_eq_false _).symm.trans h)) (fun _ => ?_)) | (refine And.intro (fun h => Bool.noConfusion ((beq_self_eq_true _).symm.trans h)) (fun _ => ?_)) | (refine And.intro (fun _ => ?_) (fun h => Bool.noConfusion ((bne_self_eq_false _).symm.trans h))) | (refine ⟨_, c1, ?_⟩) | (refine ⟨_, aw, ?_⟩) | (refine ⟨_, w1, ?_⟩) | (refine ⟨_, ce, ?_⟩) | (refine ⟨_, cd, ?_⟩) | (refine ⟨_, cs, ?_⟩) | (refine ⟨_, cz, ?_⟩) | (refine ⟨_, ck, ?_⟩) | (refine And.intro ⟨hbd2, by omega⟩ ?_) | (refine And.intro hbd ?_) | (refine ⟨_, hat, ?_⟩) | (refine ⟨_, hq, ?_⟩) | (refine ⟨[], [0, 0, 2, 6, 0, 16, 62, 127, 255, 0, 512, 1536, 3584, 7680, 16383, 32767, 65535], len_ok rfl (by kernel_rfl), ?_⟩) | (exact True.intro) | (refine And.intro (show eqT _ _ = true by kernel_rfl) ?_) | (refine And.intro rfl ?_) | (refine And.intro (And.intro (Nat.le_of_ble_eq_true rfl) rfl) ?_) | (refine And.intro (And.intro rfl rfl) ?_) | (refine And.intro (And.intro rfl (And.intro rfl rfl)) ?_) | (exact And.intro rfl (And.intro rfl rfl)) | (exact And.intro rfl rfl) | (refine br_lt ?_ ?_ <;> intro hBr <;> (first | (exfalso; omega) | (exfalso; contradiction) | (exfalso; exact hBr rfl) | skip)) | (refine br_lt_ ?_ ?_ <;> intro hBr <;> (first | (exfalso; omega) | (exfalso; contradiction) | (exfalso; exact hBr rfl) | skip)) | (refine br_le ?_ ?_ <;> intro hBr <;> (first | (exfalso; omega) | (exfalso; contradiction) | (exfalso; exact hBr rfl) | skip)) | (refine br_le_ ?_ ?_ <;> intro hBr <;> (first | (exfalso; omega) | (exfalso; contradiction) | (exfalso; exact hBr rfl) | skip)) | (refine br_eq ?_ ?_ <;> intro hBr <;> (first | (exfalso; omega) | (exfalso; contradiction) | (exfalso; exact hBr rfl) | skip)) | (refine br_eq_ ?_ ?_ <;> intro hBr <;> (first | (exfalso; omega) | (exfalso; contradiction) | (exfalso; exact hBr rfl) | skip)) | (refine br_seq ?_ ?_ <;> intro hBr <;> (first | (exfalso; omega) | (exfalso; contradiction) | (exfalso; exact hBr rfl) | skip)) | (refine br_seq_ ?_ ?_ <;> intro hBr <;> (first | (exfalso; omega) | (exfalso; contradiction) | (exfalso; exact hBr rfl) | skip)) | (refine br_not ?_) | (refine br_not_ ?_) | (refine br_and ?_) | (refine br_and_ ?_) | (refine And.intro (by omega) ?_) | (refine ⟨_, wrap_i64 (by omega), ?_⟩) | (refine ⟨_, wrap_u64 (by omega) (by omega), ?_⟩) | (refine ⟨_, wrap_u8 (by omega) (by omega), ?_⟩) | (refine ⟨_, wrap_u32 (by omega) (by omega), ?_⟩) | (refine ⟨_, wrap_u16 (by omega) (by omega), ?_⟩) | (refine ⟨_, rfl, ?_⟩) | (exact rfl)))
    refine And.intro hidx ?_
    show forceCs _ _
    rw [forceCs_eq]
    repeat' ((try conv => whnf) <;> (first | (refine Hold.mk ?_) | (refine And.intro (fun _ => ?_) (fun h => Bool.noConfusion h)) | (refine And.intro (fun h => Bool.noConfusion h) (fun _ => ?_)) | (refine And.intro (Nat.le_of_ble_eq_true rfl) ?_) | (refine And.intro (fun _ => ?_) (fun h => Bool.noConfusion ((beq_self_eq_true _).symm.trans h))) | (refine And.intro (fun h => Bool.noConfusion ((bne_self_eq_false _).symm.trans h)) (fun _ => ?_)) | (refine And.intro (fun h => Bool.noConfusion ((beq_self_eq_true _).symm.trans h)) (fun _ => ?_)) | (refine And.intro (fun _ => ?_) (fun h => Bool.noConfusion ((bne_self_eq_false _).symm.trans h))) | (refine ⟨x, ⟨hset, hxl⟩, ?_⟩) | (refine ⟨_, cx, ?_⟩) | (refine ⟨_, d2, ?_⟩) | (refine ⟨_, g2, ?_⟩) | (refine ⟨_, aw, ?_⟩) | (refine ⟨[], [0, 0, 2, 6, 0, 16, 62, 127, 255, 0, 512, 1536, 3584, 7680, 16383, 32767, 65535], len_ok rfl (by kernel_rfl), ?_⟩) | (exact True.intro) | (refine And.intro (show eqT _ _ = true by kernel_rfl) ?_) | (refine And.intro rfl ?_) | (refine And.intro (And.intro (Nat.le_of_ble_eq_true rfl) rfl) ?_) | (refine And.intro (And.intro rfl rfl) ?_) | (refine And.intro (And.intro rfl (And.intro rfl rfl)) ?_) | (exact And.intro rfl (And.intro rfl rfl)) | (exact And.intro rfl rfl) | (refine br_lt ?_ ?_ <;> intro hBr <;> (first | (exfalso; omega) | (exfalso; contradiction) | (exfalso; exact hBr rfl) | skip)) | (refine br_lt_ ?_ ?_ <;> intro hBr <;> (first | (exfalso; omega) | (exfalso; contradiction) | (exfalso; exact hBr rfl) | skip)) | (refine br_le ?_ ?_ <;> intro hBr <;> (first | (exfalso; omega) | (exfalso; contradiction) | (exfalso; exact hBr rfl) | skip)) | (refine br_le_ ?_ ?_ <;> intro hBr <;> (first | (exfalso; omega) | (exfalso; contradiction) | (exfalso; exact hBr rfl) | skip)) | (refine br_eq ?_ ?_ <;> intro hBr <;> (first | (exfalso; omega) | (exfalso; contradiction) | (exfalso; exact hBr rfl) | skip)) | (refine br_eq_ ?_ ?_ <;> intro hBr <;> (first | (exfalso; omega) | (exfalso; contradiction) | (exfalso; exact hBr rfl) | skip)) | (refine br_seq ?_ ?_ <;> intro hBr <;> (first | (exfalso; omega) | (exfalso; contradiction) | (exfalso; exact hBr rfl) | skip)) | (refine br_seq_ ?_ ?_ <;> intro hBr <;> (first | (exfalso; omega) | (exfalso; contradiction) | (exfalso; exact hBr rfl) | skip)) | (refine br_not ?_) | (refine br_not_ ?_) | (refine br_and ?_) | (refine br_and_ ?_) | (refine And.intro (by omega) ?_) | (refine ⟨_, wrap_i64 (by omega), ?_⟩) | (refine ⟨_, wrap_u64 (by omega) (by omega), ?_⟩) | (refine ⟨_, wrap_u8 (by omega) (by omega), ?_⟩) | (refine ⟨_, wrap_u32 (by omega) (by omega), ?_⟩) | (refine ⟨_, wrap_u16 (by omega) (by omega), ?_⟩) | (refine ⟨_, rfl, ?_⟩) | (exact rfl)))
  · clear e2
    refine S_ Try.func9 (by kernel_rfl) rfl (Nat.le_of_ble_eq_true rfl) ?_
    show avc Try.prog SP _ _ _ _ _ _
    dsimp only [avc, startS, Array.toList, Try.f9]
    repeat' ((try conv => whnf) <;> (first | (refine Hold.mk ?_) | (refine And.intro (fun _ => ?_) (fun h => Bool.noConfusion h)) | (refine And.intro (fun h => Bool.noConfusion h) (fun _ => ?_)) | (refine And.intro (Nat.le_of_ble_eq_true rfl) ?_) | (refine And.intro (fun _ => ?_) (fun h => Bool.noConfusion ((beq_self_eq_true _).symm.trans h))) | (refine And.intro (fun h => Bool.noConfusion ((bne_self_eq_false _).symm.trans h)) (fun _ => ?_)) | (refine And.intro (fun h => Bool.noConfusion ((beq_self_eq_true _).symm.trans h)) (fun _ => ?_)) | (refine And.intro (fun _ => ?_) (fun h => Bool.noConfusion ((bne_self_eq_false _).symm.trans h))) | (refine ⟨_, c1, ?_⟩) | (refine ⟨_, aw, ?_⟩) | (refine ⟨_, w1, ?_⟩) | (refine ⟨_, ce, ?_⟩) | (refine ⟨_, cd, ?_⟩) | (refine ⟨_, cs, ?_⟩) | (refine ⟨_, cz, ?_⟩) | (refine ⟨_, ck, ?_⟩) | (refine And.intro ⟨hbd2, by omega⟩ ?_) | (refine And.intro hbd ?_) | (refine ⟨_, hat, ?_⟩) | (refine ⟨_, hq, ?_⟩) | (refine ⟨[], [0, 0, 2, 6, 0, 16, 62, 127, 255, 0, 512, 1536, 3584, 7680, 16383, 32767, 65535], len_ok rfl (by kernel_rfl), ?_⟩) | (exact True.intro) | (refine And.intro (show eqT _ _ = true by kernel_rfl) ?_) | (refine And.intro rfl ?_) | (refine And.intro (And.intro (Nat.le_of_ble_eq_true rfl) rfl) ?_) | (refine And.intro (And.intro rfl rfl) ?_) | (refine And.intro (And.intro rfl (And.intro rfl rfl)) ?_) | (exact And.intro rfl (And.intro rfl rfl)) | (exact And.intro rfl rfl) | (refine br_lt ?_ ?_ <;> intro hBr <;> (first | (exfalso; omega) | (exfalso; contradiction) | (exfalso; exact hBr rfl) | skip)) | (refine br_lt_ ?_ ?_ <;> intro hBr <;> (first | (exfalso; omega) | (exfalso; contradiction) | (exfalso; exact hBr rfl) | skip)) | (refine br_le ?_ ?_ <;> intro hBr <;> (first | (exfalso; omega) | (exfalso; contradiction) | (exfalso; exact hBr rfl) | skip)) | (refine br_le_ ?_ ?_ <;> intro hBr <;> (first | (exfalso; omega) | (exfalso; contradiction) | (exfalso; exact hBr rfl) | skip)) | (refine br_eq ?_ ?_ <;> intro hBr <;> (first | (exfalso; omega) | (exfalso; contradiction) | (exfalso; exact hBr rfl) | skip)) | (refine br_eq_ ?_ ?_ <;> intro hBr <;> (first | (exfalso; omega) | (exfalso; contradiction) | (exfalso; exact hBr rfl) | skip)) | (refine br_seq ?_ ?_ <;> intro hBr <;> (first | (exfalso; omega) | (exfalso; contradiction) | (exfalso; exact hBr rfl) | skip)) | (refine br_seq_ ?_ ?_ <;> intro hBr <;> (first | (exfalso; omega) | (exfalso; contradiction) | (exfalso; exact hBr rfl) | skip)) | (refine br_not ?_) | (refine br_not_ ?_) | (refine br_and ?_) | (refine br_and_ ?_) | (refine And.intro (by omega) ?_) | (refine ⟨_, wrap_i64 (by omega), ?_⟩) | (refine ⟨_, wrap_u64 (by omega) (by omega), ?_⟩) | (refine ⟨_, wrap_u8 (by omega) (by omega), ?_⟩) | (refine ⟨_, wrap_u32 (by omega) (by omega), ?_⟩) | (refine ⟨_, wrap_u16 (by omega) (by omega), ?_⟩) | (refine ⟨_, rfl, ?_⟩) | (exact rfl)))
    refine And.intro hidx ?_
    show forceCs _ _
    rw [forceCs_eq]
    repeat' ((try conv => whnf) <;> (first | (refine Hold.mk ?_) | (refine And.intro (fun _ => ?_) (fun h => Bool.noConfusion h)) | (refine And.intro (fun h => Bool.noConfusion h) (fun _ => ?_)) | (refine And.intro (Nat.le_of_ble_eq_true rfl) ?_) | (refine And.intro (fun _ => ?_) (fun h => Bool.noConfusion ((beq_self_eq_true _).symm.trans h))) | (refine And.intro (fun h => Bool.noConfusion ((bne_self_eq_false _).symm.trans h)) (fun _ => ?_)) | (refine And.intro (fun h => Bool.noConfusion ((beq_self_eq_true _).symm.trans h)) (fun _ => ?_)) | (refine And.intro (fun _ => ?_) (fun h => Bool.noConfusion ((bne_self_eq_false _).symm.trans h))) | (refine ⟨x, ⟨hset, hxl⟩, ?_⟩) | (refine ⟨_, cx, ?_⟩) | (refine ⟨_, d2, ?_⟩) | (refine ⟨_, aw, ?_⟩) | (refine ⟨[], [0, 0, 2, 6, 0, 16, 62, 127, 255, 0, 512, 1536, 3584, 7680, 16383, 32767, 65535], len_ok rfl (by kernel_rfl), ?_⟩) | (exact True.intro) | (refine And.intro (show eqT _ _ = true by kernel_rfl) ?_) | (refine And.intro rfl ?_) | (refine And.intro (And.intro (Nat.le_of_ble_eq_true rfl) rfl) ?_) | (refine And.intro (And.intro rfl rfl) ?_) | (refine And.intro (And.intro rfl (And.intro rfl rfl)) ?_) | (exact And.intro rfl (And.intro rfl rfl)) | (exact And.intro rfl rfl) | (refine br_lt ?_ ?_ <;> intro hBr <;> (first | (exfalso; omega) | (exfalso; contradiction) | (exfalso; exact hBr rfl) | skip)) | (refine br_lt_ ?_ ?_ <;> intro hBr <;> (first | (exfalso; omega) | (exfalso; contradiction) | (exfalso; exact hBr rfl) | skip)) | (refine br_le ?_ ?_ <;> intro hBr <;> (first | (exfalso; omega) | (exfalso; contradiction) | (exfalso; exact hBr rfl) | skip)) | (refine br_le_ ?_ ?_ <;> intro hBr <;> (first | (exfalso; omega) | (exfalso; contradiction) | (exfalso; exact hBr rfl) | skip)) | (refine br_eq ?_ ?_ <;> intro hBr <;> (first | (exfalso; omega) | (exfalso; contradiction) | (exfalso; exact hBr rfl) | skip)) | (refine br_eq_ ?_ ?_ <;> intro hBr <;> (first | (exfalso; omega) | (exfalso; contradiction) | (exfalso; exact hBr rfl) | skip)) | (refine br_seq ?_ ?_ <;> intro hBr <;> (first | (exfalso; omega) | (exfalso; contradiction) | (exfalso; exact hBr rfl) | skip)) | (refine br_seq_ ?_ ?_ <;> intro hBr <;> (first | (exfalso; omega) | (exfalso; contradiction) | (exfalso; exact hBr rfl) | skip)) | (refine br_not ?_) | (refine br_not_ ?_) | (refine br_and ?_) | (refine br_and_ ?_) | (refine And.intro (by omega) ?_) | (refine ⟨_, wrap_i64 (by omega), ?_⟩) | (refine ⟨_, wrap_u64 (by omega) (by omega), ?_⟩) | (refine ⟨_, wrap_u8 (by omega) (by omega), ?_⟩) | (refine ⟨_, wrap_u32 (by omega) (by omega), ?_⟩) | (refine ⟨_, wrap_u16 (by omega) (by omega), ?_⟩) | (refine ⟨_, rfl, ?_⟩) | (exact rfl)))
theorem newC_eq (b : UInt8) (q : Int) (h0 : 1 ≤ q) (h1 : q ≤ 255) : ∃ y : UInt8, newC b q = (y.toNat : Int) ∧ b ≠ y := by
  obtain ⟨d, hd⟩ : ∃ d : UInt8, q = (d.toNat : Int) := ⟨UInt8.ofNat q.toNat, by rw [UInt8.toNat_ofNat_of_lt' (by show q.toNat < 256; omega)]; omega⟩
  refine ⟨b ^^^ d, ?_, ?_⟩
  · subst hd
    show bits .xor .u8 (b.toNat : Int) (d.toNat : Int) = _
    rw [u8_xor_nat _ _ (UInt8.toNat_lt _) (UInt8.toNat_lt _), UInt8.toNat_xor]
  · intro h
    have h3 : b ^^^ b = b ^^^ (b ^^^ d) := congrArg (b ^^^ ·) h
    rw [UInt8.xor_self, ← UInt8.xor_assoc, UInt8.xor_self, UInt8.zero_xor] at h3
    rw [← h3] at hd
    have : (0 : UInt8).toNat = 0 := rfl
    omega
theorem set_bytes13 (l : List UInt8) (i : Nat) (y : UInt8) : setL (bytesA l) i [.ex (.int .u8 (y.toNat : Int))] = bytesA (l.set i y) := by
  show (bytesA l).set i _ = _
  unfold bytesA
  rw [List.map_set]
  rfl
theorem bback_ok (os : List OpP) (hl : os.length ≤ 9223372036854775807) (s : List UInt8) (hs : s.length ≤ 9223372036854775807) (n0 n1 : Nat) (hn0 : n0 < 65536) (hn1 : n1 < 65536) : SP 9 [.vs os.length (opC os), T s, two16 n0 n1] (B true) := by
  have zs := bs_size s
  by_cases h : Over13 os
  · exact bback_out os s n0 n1 awake13_ok (.inl (over13_yes hl h))
  by_cases h2 : 2000 < s.length
  · exact bback_out os s n0 n1 awake13_ok (.inr ⟨over13_no h, by omega⟩)
  obtain ⟨i1, i2⟩ := over_in13 h
  have sz : Sized os := ⟨by omega, fun o ho => by have := i2 o ho; omega⟩
  have ce := encode_ok os sz
  have d2 := decode_ok s (by omega)
  have e2 : (decOps s).2 = 0 → SP 40 [.vs (decOps s).1.length (opC (decOps s).1)] (.tup [T s, Z 0]) := fun hf => by
    obtain ⟨q1, q2, q3⟩ := enc_dec hf
    have := encode_ok (decOps s).1 ⟨by omega, fun o ho => by obtain ⟨_, _, k1, k2, _⟩ := checkP_zero (q2 o ho); omega⟩
    rwa [q1] at this
  generalize (decOps s).1 = m at d2 e2
  generalize (decOps s).2 = f at d2 e2
  by_cases he : (encOps os).2 = 0
  · obtain ⟨g1, g2, g3, g4⟩ := dec_enc he
    have hso : ∃ b, (encOps os).1 = Crc.sealed b := by
      unfold encOps at he ⊢
      by_cases k0 : checkL os ≠ 0
      · rw [if_pos k0] at he; exact absurd he k0
      rw [if_neg k0] at he ⊢
      by_cases k1 : 1400 < 5 + sizeL os
      · rw [if_pos k1] at he; exact absurd he (by decide)
      rw [if_neg k1]; exact ⟨_, rfl⟩
    obtain ⟨body, hbody⟩ := hso
    rw [he] at ce
    generalize (encOps os).1 = t at ce g1 g2 hbody
    have zt := bs_size t
    have cd := decode_ok t (by omega)
    rw [g1] at cd
    have cs := bsame_ok os os (by omega) (by omega)
    rw [decide_eq_true rfl] at cs
    obtain ⟨i, hi⟩ : ∃ i, i = n0 % t.length := ⟨_, rfl⟩
    have hit : i < t.length := by rw [hi]; exact Nat.mod_lt _ (by omega)
    have hiI : (n0 : Int) % ((bs t).size : Int) = (i : Int) := by rw [zt, hi]; exact (Int.natCast_emod _ _).symm
    obtain ⟨q, hq⟩ : ∃ q : Int, q = ((1 + n1 % 255 : Nat) : Int) := ⟨_, rfl⟩
    have hq2 : IntKind.u16.wrap (1 + (n1 : Int).tmod 255) = q := by
      have h1 : (n1 : Int).tmod 255 = ((n1 % 255 : Nat) : Int) := by rw [Int.tmod_eq_emod_of_nonneg (by omega)]; omega
      rw [h1, wrap_u16 (by omega) (by omega), hq]; omega
    obtain ⟨y, hy1, hy2⟩ := newC_eq t[i] q (by omega) (by omega)
    have hmul : mulS ((n0 : Int) % ((bs t).size : Int)).toNat (sizeT Try.prog 5) = i := by rw [hiI, hs8, mulS_eq, Int.toNat_natCast, Nat.mul_one]
    subst hbody
    have hturn := Crc.opened_turned body i y hit hy2
    have cx := decode_ok ((Crc.sealed body).set i y) (by rw [List.length_set]; omega)
    rw [show decOps ((Crc.sealed body).set i y) = ([], 10) by unfold decOps; rw [hturn, if_pos (by decide)]] at cx
    refine bback_yes os s (Crc.sealed body) ((Crc.sealed body).set i y) n0 n1 m (5 + sizeL os) 10 f q (by decide) (by omega) (by omega) (by omega) (by omega) hn0 (by omega) (by omega) hq2 (Crc.sealed body)[i] ?_ ?_ (by rw [List.length_set]; omega) ?_ ?_ awake13_ok (over13_no h) (own13_ok os (by omega)) ce cd cs (size_ok os sz _ rfl) (check_ok os sz 0 g4) cx d2 e2
    · rw [hmul]; show (bytesA (Crc.sealed body))[i]? = _; unfold bytesA; rw [List.getElem?_map, List.getElem?_eq_getElem hit]; rfl
    · rw [hmul, hy1]; exact set_bytes13 _ i y
    · rw [hmul, bytesA_length]; exact hit
    · rw [hiI]; omega
  · exact bback_no os s _ n0 n1 m _ f he (by omega) awake13_ok (over13_no h) (own13_ok os (by omega)) ce d2 e2
theorem cells_hh {cs : Array Value} (h : CellsOk [.int .u16, .int .u16] cs.toList) : ∃ a b : Nat, a < 65536 ∧ b < 65536 ∧ cs = #[.int .u16 a, .int .u16 b] := by
  obtain ⟨v0, r0, e0, ⟨k0, rfl, hk0⟩, hr0⟩ := h.cons_
  obtain ⟨v1, r1, e1, ⟨k1, rfl, hk1⟩, hr1⟩ := hr0.cons_
  have e2 := hr1.empty_
  subst e2 e1
  have b0 := bounds_u16 hk0
  have b1 := bounds_u16 hk1
  refine ⟨k0.toNat, k1.toNat, by omega, by omega, ?_⟩
  rw [Int.toNat_of_nonneg b0.1, Int.toNat_of_nonneg b1.1]
  apply Array.ext'
  rw [e0]
theorem batchBack_walk (rows : List (List Value)) (k : Nat) (F : Nat → Nat → Prop) (v : Value) (s : List UInt8) (c : Array Value) (w : World) (hq : rows.length = k) (hz : k ≤ 9223372036854775807)
    (hok : ∀ r ∈ rows, CellsOk [.int .u8, .str, .str] r) (hlo : ∀ g j, F g j → g < w.heap.size) (hrep : ∀ F' : Nat → Nat → Prop, (∀ g j, F g j → F' g j) → Rep w p0 c0 F' noD (.vs k (rows.flatten.map .ex)) v) (hs : s.length ≤ 9223372036854775807) (hc : CellsOk [.int .u16, .int .u16] c.toList) :
    Calls Try.prog 9 #[v, .string (bs s), .agg c] w fun e w' => e = .returned (.bool true) ∧ Below w.heap.size w w' := by
  obtain ⟨os, e1, e2⟩ := rows_O13 hok
  obtain ⟨a, b, la, lb, rfl⟩ := cells_hh hc
  have hr := hrep F fun _ _ h => h
  rw [e2, ← hq, ← e1] at hr
  refine calls_at (bback_ok os (by omega) s hs a b la lb) w F hlo _ rfl fun j hj => ?_
  match j, hj with
  | 0, _ => exact hr
  | 1, _ => exact .ex _ _
  | 2, _ => exact .ex _ _
end Go.Proofs.Ytdicpbecdhaphaa.Av
