/- batch: ops laid as bytes, walked. No conditions but that sizes stay far below what memory holds. -/
import Derived.Test.YtdicpbecdhaphaaBatch2
namespace Go.Proofs.Ytdicpbecdhaphaa.Av
open Go Go.RowKit Tre
set_option linter.unusedVariables false
set_option linter.unusedSimpArgs false
set_option maxRecDepth 100000
set_option maxHeartbeats 1000000

/-- an op's bytes -/
def layB (o : OpP) : List UInt8 := [UInt8.ofNat o.1] ++ Quill.rowB o.2.1 ++ if o.1 = 1 then Quill.rowB o.2.2 else []
theorem layB_len (o : OpP) : (layB o).length = sizeO o := by
  unfold layB sizeO
  split <;> simp [Quill.rowB_length] <;> omega
def laysB : List OpP → List UInt8
  | [] => []
  | o :: l => layB o ++ laysB l
theorem laysB_len : ∀ l : List OpP, (laysB l).length = sizeL l
  | [] => rfl
  | o :: l => by simp only [laysB, List.length_append, layB_len, laysB_len l, sizeL]
def bodyB (l : List OpP) : List UInt8 := UInt8.ofNat l.length :: laysB l
theorem hs8 : sizeT Try.prog 5 = 1 := by kernel_rfl
abbrev rowB8 (l : List UInt8) : ABlk := ⟨bytesA l, some 5, true, true⟩
theorem room_8 {k : Nat} (hk : k ≤ 1000000000000) : room k (bytesT Try.prog 5) := by
  rw [show bytesT Try.prog 5 = 1 by kernel_rfl]; unfold room; omega
theorem one_b (l : List UInt8) : ∀ v ∈ bytesA l, one1 v = true := by
  intro v hv
  obtain ⟨x, _, rfl⟩ := List.mem_map.1 hv
  rfl
theorem kind_byte {n : Nat} (h1 : 1 ≤ n) (h3 : n ≤ 3) : AV.ex (.int .u8 (n : Int)) = byteA (UInt8.ofNat n) := by
  show _ = AV.ex (.int .u8 (((UInt8.ofNat n).toNat : Nat) : Int))
  rw [UInt8.toNat_ofNat_of_lt' (by show n < 256; omega)]
theorem lay_ok (o : OpP) (l : List UInt8) (h1 : 1 ≤ o.1) (h3 : o.1 ≤ 3) (ha : o.2.1.length ≤ 65535) (hv : o.2.2.length ≤ 65535) (hl : l.length ≤ 1000000) :
    SM 71 [opA o, .sl 0 l.length] [rowB8 l] [] (.sl 0 (l ++ layB o).length) [rowB8 (l ++ layB o)] := by
  obtain ⟨n, a, v⟩ := o
  have hk := kind_byte h1 h3
  have ha : a.length ≤ 65535 := ha
  have hv : v.length ≤ 65535 := hv
  have e1 : bytesA l ++ [AV.ex (.int .u8 (n : Int))] = bytesA (l ++ [UInt8.ofNat n]) := by
    show bytesA l ++ [AV.ex (.int .u8 (n : Int))] = _
    rw [hk]; simp [bytesA]
  have hb : (bytesA l).length = l.length * sizeT Try.prog 5 := by rw [hs8, bytesA_length]; omega
  have hc : ([AV.ex (.int .u8 (n : Int))] : List AV).length = 1 * sizeT Try.prog 5 ∧ ∀ u ∈ ([AV.ex (.int .u8 (n : Int))] : List AV), one1 u = true := by
    rw [hs8]; exact ⟨rfl, fun u hu => by rw [List.mem_singleton] at hu; subst hu; rfl⟩
  have c1 : SP 96 [.vs (l.length + 1) (bytesA l ++ [AV.ex (.int .u8 (n : Int))]), T a] (.tup [.own 5 ((l ++ [UInt8.ofNat n]) ++ Quill.rowB a).length (bytesA ((l ++ [UInt8.ofNat n]) ++ Quill.rowB a)), Z 0]) := by
    have := rowk_snd (l ++ [UInt8.ofNat n]) a (by simp; omega) ha
    rwa [← e1, show (l ++ [UInt8.ofNat n]).length = l.length + 1 by simp] at this
  have c2 := rowk_snd ((l ++ [UInt8.ofNat n]) ++ Quill.rowB a) v (by simp [Quill.rowB_length]; omega) hv
  by_cases k1 : n = 1
  · have e : l ++ layB (n, a, v) = (l ++ [UInt8.ofNat n]) ++ Quill.rowB a ++ Quill.rowB v := by
      unfold layB; rw [if_pos k1]; simp only [List.append_assoc]
    rw [e]
    generalize (l ++ [UInt8.ofNat n]) ++ Quill.rowB a ++ Quill.rowB v = X at c2
    generalize (l ++ [UInt8.ofNat n]) ++ Quill.rowB a = Y at c1 c2
    clear e1 hk e
    subst k1
    refine SM_ Try.func71 (by kernel_rfl) rfl (Nat.le_of_ble_eq_true rfl) (Nat.zero_le _) ?_
    show avc Try.prog SP _ _ _ _ _ _
    dsimp only [avc, startS, Array.toList, Try.f71]
    repeat' ((try conv => whnf) <;> (first | (refine Hold.mk ?_) | (refine And.intro (fun _ => ?_) (fun h => Bool.noConfusion h)) | (refine And.intro (fun h => Bool.noConfusion h) (fun _ => ?_)) | (refine And.intro (Nat.le_of_ble_eq_true rfl) ?_) | (refine And.intro (fun _ => ?_) (fun h => Bool.noConfusion ((beq_self_eq_true _).symm.trans h))) | (refine And.intro (fun h => Bool.noConfusion ((bne_self_eq_false _).symm.trans h)) (fun _ => ?_)) | (refine And.intro (fun h => Bool.noConfusion ((beq_self_eq_true _).symm.trans h)) (fun _ => ?_)) | (refine And.intro (fun _ => ?_) (fun h => Bool.noConfusion ((bne_self_eq_false _).symm.trans h))) | (refine ⟨true, ?_⟩) | (refine And.intro ⟨room_8 (by omega), hb, hc⟩ ?_) | (refine ⟨_, c1, ?_⟩) | (refine ⟨_, c2, ?_⟩) | (refine ⟨[], [0, 0, 2, 6, 15, 0, 32, 127, 255, 511, 511, 1023, 4095], len_ok rfl (by kernel_rfl), ?_⟩) | (exact True.intro) | (refine And.intro (show eqT _ _ = true by kernel_rfl) ?_) | (refine And.intro rfl ?_) | (refine And.intro (And.intro (Nat.le_of_ble_eq_true rfl) rfl) ?_) | (refine And.intro (And.intro rfl rfl) ?_) | (refine And.intro (And.intro rfl (And.intro rfl rfl)) ?_) | (exact And.intro rfl (And.intro rfl rfl)) | (exact And.intro rfl rfl) | (refine br_lt ?_ ?_ <;> intro hBr <;> (first | (exfalso; omega) | (exfalso; contradiction) | (exfalso; exact hBr rfl) | skip)) | (refine br_lt_ ?_ ?_ <;> intro hBr <;> (first | (exfalso; omega) | (exfalso; contradiction) | (exfalso; exact hBr rfl) | skip)) | (refine br_le ?_ ?_ <;> intro hBr <;> (first | (exfalso; omega) | (exfalso; contradiction) | (exfalso; exact hBr rfl) | skip)) | (refine br_le_ ?_ ?_ <;> intro hBr <;> (first | (exfalso; omega) | (exfalso; contradiction) | (exfalso; exact hBr rfl) | skip)) | (refine br_eq ?_ ?_ <;> intro hBr <;> (first | (exfalso; omega) | (exfalso; contradiction) | (exfalso; exact hBr rfl) | skip)) | (refine br_eq_ ?_ ?_ <;> intro hBr <;> (first | (exfalso; omega) | (exfalso; contradiction) | (exfalso; exact hBr rfl) | skip)) | (refine br_seq ?_ ?_ <;> intro hBr <;> (first | (exfalso; omega) | (exfalso; contradiction) | (exfalso; exact hBr rfl) | skip)) | (refine br_seq_ ?_ ?_ <;> intro hBr <;> (first | (exfalso; omega) | (exfalso; contradiction) | (exfalso; exact hBr rfl) | skip)) | (refine br_not ?_) | (refine br_not_ ?_) | (refine br_and ?_) | (refine br_and_ ?_) | (refine And.intro (by omega) ?_) | (refine ⟨_, wrap_i64 (by omega), ?_⟩) | (refine ⟨_, wrap_u64 (by omega) (by omega), ?_⟩) | (refine ⟨_, wrap_u8 (by omega) (by omega), ?_⟩) | (refine ⟨_, wrap_u32 (by omega) (by omega), ?_⟩) | (refine ⟨_, wrap_u16 (by omega) (by omega), ?_⟩) | (refine ⟨_, rfl, ?_⟩) | (exact rfl)))
  · have e : l ++ layB (n, a, v) = (l ++ [UInt8.ofNat n]) ++ Quill.rowB a := by
      unfold layB; rw [if_neg k1]; simp only [List.append_assoc, List.append_nil]
    rw [e]
    generalize (l ++ [UInt8.ofNat n]) ++ Quill.rowB a = Y at c1 c2
    have g1 : ¬ (n : Int) = 1 := by omega
    clear e1 hk e c2
    refine SM_ Try.func71 (by kernel_rfl) rfl (Nat.le_of_ble_eq_true rfl) (Nat.zero_le _) ?_
    show avc Try.prog SP _ _ _ _ _ _
    dsimp only [avc, startS, Array.toList, Try.f71]
    repeat' ((try conv => whnf) <;> (first | (refine Hold.mk ?_) | (refine And.intro (fun _ => ?_) (fun h => Bool.noConfusion h)) | (refine And.intro (fun h => Bool.noConfusion h) (fun _ => ?_)) | (refine And.intro (Nat.le_of_ble_eq_true rfl) ?_) | (refine And.intro (fun _ => ?_) (fun h => Bool.noConfusion ((beq_self_eq_true _).symm.trans h))) | (refine And.intro (fun h => Bool.noConfusion ((bne_self_eq_false _).symm.trans h)) (fun _ => ?_)) | (refine And.intro (fun h => Bool.noConfusion ((beq_self_eq_true _).symm.trans h)) (fun _ => ?_)) | (refine And.intro (fun _ => ?_) (fun h => Bool.noConfusion ((bne_self_eq_false _).symm.trans h))) | (refine ⟨true, ?_⟩) | (refine And.intro ⟨room_8 (by omega), hb, hc⟩ ?_) | (refine ⟨_, c1, ?_⟩) | (refine ⟨[], [0, 0, 2, 6, 15, 0, 32, 127, 255, 511, 511, 1023, 4095], len_ok rfl (by kernel_rfl), ?_⟩) | (exact True.intro) | (refine And.intro (show eqT _ _ = true by kernel_rfl) ?_) | (refine And.intro rfl ?_) | (refine And.intro (And.intro (Nat.le_of_ble_eq_true rfl) rfl) ?_) | (refine And.intro (And.intro rfl rfl) ?_) | (refine And.intro (And.intro rfl (And.intro rfl rfl)) ?_) | (exact And.intro rfl (And.intro rfl rfl)) | (exact And.intro rfl rfl) | (refine br_lt ?_ ?_ <;> intro hBr <;> (first | (exfalso; omega) | (exfalso; contradiction) | (exfalso; exact hBr rfl) | skip)) | (refine br_lt_ ?_ ?_ <;> intro hBr <;> (first | (exfalso; omega) | (exfalso; contradiction) | (exfalso; exact hBr rfl) | skip)) | (refine br_le ?_ ?_ <;> intro hBr <;> (first | (exfalso; omega) | (exfalso; contradiction) | (exfalso; exact hBr rfl) | skip)) | (refine br_le_ ?_ ?_ <;> intro hBr <;> (first | (exfalso; omega) | (exfalso; contradiction) | (exfalso; exact hBr rfl) | skip)) | (refine br_eq ?_ ?_ <;> intro hBr <;> (first | (exfalso; omega) | (exfalso; contradiction) | (exfalso; exact hBr rfl) | skip)) | (refine br_eq_ ?_ ?_ <;> intro hBr <;> (first | (exfalso; omega) | (exfalso; contradiction) | (exfalso; exact hBr rfl) | skip)) | (refine br_seq ?_ ?_ <;> intro hBr <;> (first | (exfalso; omega) | (exfalso; contradiction) | (exfalso; exact hBr rfl) | skip)) | (refine br_seq_ ?_ ?_ <;> intro hBr <;> (first | (exfalso; omega) | (exfalso; contradiction) | (exfalso; exact hBr rfl) | skip)) | (refine br_not ?_) | (refine br_not_ ?_) | (refine br_and ?_) | (refine br_and_ ?_) | (refine And.intro (by omega) ?_) | (refine ⟨_, wrap_i64 (by omega), ?_⟩) | (refine ⟨_, wrap_u64 (by omega) (by omega), ?_⟩) | (refine ⟨_, wrap_u8 (by omega) (by omega), ?_⟩) | (refine ⟨_, wrap_u32 (by omega) (by omega), ?_⟩) | (refine ⟨_, wrap_u16 (by omega) (by omega), ?_⟩) | (refine ⟨_, rfl, ?_⟩) | (exact rfl)))
theorem laysB_app (l m : List OpP) : laysB (l ++ m) = laysB l ++ laysB m := by
  induction l with
  | nil => rfl
  | cons o l ih => simp only [List.cons_append, laysB, ih, List.append_assoc]
/-- ops' bytes, or why there are none -/
def encOps (l : List OpP) : List UInt8 × Int := if checkL l ≠ 0 then ([], checkL l) else if 1400 < 5 + sizeL l then ([], 7) else (Crc.sealed (bodyB l), 0)
theorem firstE_zero : ∀ {l : List OpP}, firstE l = 0 → ∀ o ∈ l, checkP o = 0
  | o :: l, h, x, hx => by
    unfold firstE at h
    by_cases h0 : checkP o = 0
    · rw [if_pos h0] at h
      rcases List.mem_cons.1 hx with rfl | hx
      · exact h0
      · exact firstE_zero h x hx
    · rw [if_neg h0] at h; exact absurd h h0
theorem checkP_zero {o : OpP} (h : checkP o = 0) : 1 ≤ o.1 ∧ o.1 ≤ 3 ∧ o.2.1.length ≤ 100 ∧ o.2.2.length ≤ 900 ∧ (o.1 < 3 → o.2.1 ≠ []) ∧ (1 < o.1 → o.2.2 = []) := by
  unfold checkP at h
  by_cases h1 : o.1 < 1 ∨ 3 < o.1
  · rw [if_pos h1] at h; exact absurd h (by decide)
  rw [if_neg h1] at h
  by_cases h2 : 100 < o.2.1.length ∨ 900 < o.2.2.length
  · rw [if_pos h2] at h; exact absurd h (by decide)
  rw [if_neg h2] at h
  by_cases h3 : (o.1 < 3 ∧ o.2.1 = []) ∨ (1 < o.1 ∧ o.2.2 ≠ [])
  · rw [if_pos h3] at h; exact absurd h (by decide)
  exact ⟨by omega, by omega, by omega, by omega, fun k e => h3 (.inl ⟨k, e⟩), fun k => by
    apply Classical.byContradiction; intro e; exact h3 (.inr ⟨k, e⟩)⟩
theorem checkL_zero {l : List OpP} (h : checkL l = 0) : l.length ≤ 40 ∧ ∀ o ∈ l, checkP o = 0 := by
  unfold checkL at h
  by_cases h1 : 40 < l.length
  · rw [if_pos h1] at h; exact absurd h (by decide)
  rw [if_neg h1] at h
  exact ⟨by omega, firstE_zero h⟩
theorem encode_ok (l : List OpP) (hl : Sized l) : SP 40 [.vs l.length (opC l)] (.tup [T (encOps l).1, Z (encOps l).2]) := by
  have c1 := check_ok l hl _ rfl
  have c2 := size_ok l hl _ rfl
  obtain ⟨hl, ho⟩ := hl
  by_cases h0 : checkL l ≠ 0
  · rw [show encOps l = ([], checkL l) from if_pos h0]
    generalize checkL l = e at c1 h0
    refine S_ Try.func40 (by kernel_rfl) rfl (Nat.le_of_ble_eq_true rfl) ?_
    show avc Try.prog SP _ _ _ _ _ _
    dsimp only [avc, startS, Array.toList, Try.f40]
    repeat' ((try conv => whnf) <;> (first | (refine Hold.mk ?_) | (refine And.intro (fun _ => ?_) (fun h => Bool.noConfusion h)) | (refine And.intro (fun h => Bool.noConfusion h) (fun _ => ?_)) | (refine And.intro (Nat.le_of_ble_eq_true rfl) ?_) | (refine And.intro (fun _ => ?_) (fun h => Bool.noConfusion ((beq_self_eq_true _).symm.trans h))) | (refine And.intro (fun h => Bool.noConfusion ((bne_self_eq_false _).symm.trans h)) (fun _ => ?_)) | (refine And.intro (fun h => Bool.noConfusion ((beq_self_eq_true _).symm.trans h)) (fun _ => ?_)) | (refine And.intro (fun _ => ?_) (fun h => Bool.noConfusion ((bne_self_eq_false _).symm.trans h))) | (refine ⟨_, c1, ?_⟩) | (exact True.intro) | (refine And.intro (show eqT _ _ = true by kernel_rfl) ?_) | (refine And.intro rfl ?_) | (refine And.intro (And.intro (Nat.le_of_ble_eq_true rfl) rfl) ?_) | (refine And.intro (And.intro rfl rfl) ?_) | (refine And.intro (And.intro rfl (And.intro rfl rfl)) ?_) | (exact And.intro rfl (And.intro rfl rfl)) | (exact And.intro rfl rfl) | (refine br_lt ?_ ?_ <;> intro hBr <;> (first | (exfalso; omega) | (exfalso; contradiction) | (exfalso; exact hBr rfl) | skip)) | (refine br_lt_ ?_ ?_ <;> intro hBr <;> (first | (exfalso; omega) | (exfalso; contradiction) | (exfalso; exact hBr rfl) | skip)) | (refine br_le ?_ ?_ <;> intro hBr <;> (first | (exfalso; omega) | (exfalso; contradiction) | (exfalso; exact hBr rfl) | skip)) | (refine br_le_ ?_ ?_ <;> intro hBr <;> (first | (exfalso; omega) | (exfalso; contradiction) | (exfalso; exact hBr rfl) | skip)) | (refine br_eq ?_ ?_ <;> intro hBr <;> (first | (exfalso; omega) | (exfalso; contradiction) | (exfalso; exact hBr rfl) | skip)) | (refine br_eq_ ?_ ?_ <;> intro hBr <;> (first | (exfalso; omega) | (exfalso; contradiction) | (exfalso; exact hBr rfl) | skip)) | (refine br_seq ?_ ?_ <;> intro hBr <;> (first | (exfalso; omega) | (exfalso; contradiction) | (exfalso; exact hBr rfl) | skip)) | (refine br_seq_ ?_ ?_ <;> intro hBr <;> (first | (exfalso; omega) | (exfalso; contradiction) | (exfalso; exact hBr rfl) | skip)) | (refine br_not ?_) | (refine br_not_ ?_) | (refine br_and ?_) | (refine br_and_ ?_) | (refine And.intro (by omega) ?_) | (refine ⟨_, wrap_i64 (by omega), ?_⟩) | (refine ⟨_, wrap_u64 (by omega) (by omega), ?_⟩) | (refine ⟨_, wrap_u8 (by omega) (by omega), ?_⟩) | (refine ⟨_, wrap_u32 (by omega) (by omega), ?_⟩) | (refine ⟨_, wrap_u16 (by omega) (by omega), ?_⟩) | (refine ⟨_, rfl, ?_⟩) | (exact rfl)))
  have h0 : checkL l = 0 := by simpa using h0
  rw [h0] at c1
  by_cases h1 : 1400 < 5 + sizeL l
  · rw [show encOps l = ([], 7) from (if_neg (by rw [h0]; simp)).trans (if_pos h1)]
    generalize 5 + sizeL l = z at c2 h1
    refine S_ Try.func40 (by kernel_rfl) rfl (Nat.le_of_ble_eq_true rfl) ?_
    show avc Try.prog SP _ _ _ _ _ _
    dsimp only [avc, startS, Array.toList, Try.f40]
    repeat' ((try conv => whnf) <;> (first | (refine Hold.mk ?_) | (refine And.intro (fun _ => ?_) (fun h => Bool.noConfusion h)) | (refine And.intro (fun h => Bool.noConfusion h) (fun _ => ?_)) | (refine And.intro (Nat.le_of_ble_eq_true rfl) ?_) | (refine And.intro (fun _ => ?_) (fun h => Bool.noConfusion ((beq_self_eq_true _).symm.trans h))) | (refine And.intro (fun h => Bool.noConfusion ((bne_self_eq_false _).symm.trans h)) (fun _ => ?_)) | (refine And.intro (fun h => Bool.noConfusion ((beq_self_eq_true _).symm.trans h)) (fun _ => ?_)) | (refine And.intro (fun _ => ?_) (fun h => Bool.noConfusion ((bne_self_eq_false _).symm.trans h))) | (refine ⟨_, c1, ?_⟩) | (refine ⟨_, c2, ?_⟩) | (exact True.intro) | (refine And.intro (show eqT _ _ = true by kernel_rfl) ?_) | (refine And.intro rfl ?_) | (refine And.intro (And.intro (Nat.le_of_ble_eq_true rfl) rfl) ?_) | (refine And.intro (And.intro rfl rfl) ?_) | (refine And.intro (And.intro rfl (And.intro rfl rfl)) ?_) | (exact And.intro rfl (And.intro rfl rfl)) | (exact And.intro rfl rfl) | (refine br_lt ?_ ?_ <;> intro hBr <;> (first | (exfalso; omega) | (exfalso; contradiction) | (exfalso; exact hBr rfl) | skip)) | (refine br_lt_ ?_ ?_ <;> intro hBr <;> (first | (exfalso; omega) | (exfalso; contradiction) | (exfalso; exact hBr rfl) | skip)) | (refine br_le ?_ ?_ <;> intro hBr <;> (first | (exfalso; omega) | (exfalso; contradiction) | (exfalso; exact hBr rfl) | skip)) | (refine br_le_ ?_ ?_ <;> intro hBr <;> (first | (exfalso; omega) | (exfalso; contradiction) | (exfalso; exact hBr rfl) | skip)) | (refine br_eq ?_ ?_ <;> intro hBr <;> (first | (exfalso; omega) | (exfalso; contradiction) | (exfalso; exact hBr rfl) | skip)) | (refine br_eq_ ?_ ?_ <;> intro hBr <;> (first | (exfalso; omega) | (exfalso; contradiction) | (exfalso; exact hBr rfl) | skip)) | (refine br_seq ?_ ?_ <;> intro hBr <;> (first | (exfalso; omega) | (exfalso; contradiction) | (exfalso; exact hBr rfl) | skip)) | (refine br_seq_ ?_ ?_ <;> intro hBr <;> (first | (exfalso; omega) | (exfalso; contradiction) | (exfalso; exact hBr rfl) | skip)) | (refine br_not ?_) | (refine br_not_ ?_) | (refine br_and ?_) | (refine br_and_ ?_) | (refine And.intro (by omega) ?_) | (refine ⟨_, wrap_i64 (by omega), ?_⟩) | (refine ⟨_, wrap_u64 (by omega) (by omega), ?_⟩) | (refine ⟨_, wrap_u8 (by omega) (by omega), ?_⟩) | (refine ⟨_, wrap_u32 (by omega) (by omega), ?_⟩) | (refine ⟨_, wrap_u16 (by omega) (by omega), ?_⟩) | (refine ⟨_, rfl, ?_⟩) | (exact rfl)))
  rw [show encOps l = (Crc.sealed (bodyB l), 0) from (if_neg (by rw [h0]; simp)).trans (if_neg h1)]
  obtain ⟨hn, hz⟩ := checkL_zero h0
  have hlb := laysB_len l
  have c3 := crcseal_ok (bodyB l) (by show (laysB l).length + 1 ≤ _; omega)
  have hst : ∀ i (h : i < l.length), SM 71 [opA l[i], .sl 0 (UInt8.ofNat l.length :: laysB (l.take i)).length] [rowB8 (UInt8.ofNat l.length :: laysB (l.take i))] [] (.sl 0 (UInt8.ofNat l.length :: laysB (l.take (i + 1))).length) [rowB8 (UInt8.ofNat l.length :: laysB (l.take (i + 1)))] := fun i h => by
    obtain ⟨q1, q2, q3, q4, _⟩ := checkP_zero (hz _ (List.getElem_mem h))
    have hle : (laysB (l.take i)).length ≤ (laysB l).length := by
      have := laysB_app (l.take i) (l.drop i)
      rw [List.take_append_drop] at this
      rw [this, List.length_append]; omega
    have := lay_ok l[i] (UInt8.ofNat l.length :: laysB (l.take i)) q1 q2 (by omega) (by omega) (by rw [List.length_cons]; omega)
    rwa [show (UInt8.ofNat l.length :: laysB (l.take i)) ++ layB l[i] = UInt8.ofNat l.length :: laysB (l.take (i + 1)) by
      rw [List.take_add_one, List.getElem?_eq_getElem h, laysB_app]; simp [laysB]] at this
  have hb0 : AV.ex (.int .u8 (l.length : Int)) = byteA (UInt8.ofNat l.length) := by
    show _ = AV.ex (.int .u8 (((UInt8.ofNat l.length).toNat : Nat) : Int))
    rw [UInt8.toNat_ofNat_of_lt' (by show l.length < 256; omega)]
  have hst0 : ([.ex (.int .u8 (l.length : Int))] : List AV) = bytesA (UInt8.ofNat l.length :: laysB (l.take 0)) := by rw [hb0]; rfl
  have hln0 : (1 : Nat) = (UInt8.ofNat l.length :: laysB (l.take 0)).length := rfl
  have hfin : UInt8.ofNat l.length :: laysB (l.take l.length) = bodyB l := by rw [List.take_length]; rfl
  generalize bodyB l = X at c3 hfin
  generalize 5 + sizeL l = z at c2 h1
  obtain ⟨Y, hY⟩ : ∃ Y : Nat → List UInt8, Y = fun i => UInt8.ofNat l.length :: laysB (l.take i) := ⟨_, rfl⟩
  have hst : ∀ i (h : i < l.length), SM 71 [opA l[i], .sl 0 (Y i).length] [rowB8 (Y i)] [] (.sl 0 (Y (i + 1)).length) [rowB8 (Y (i + 1))] := by rw [hY]; exact hst
  have hst0 : ([.ex (.int .u8 (l.length : Int))] : List AV) = bytesA (Y 0) := by rw [hY]; exact hst0
  have hln0 : (1 : Nat) = (Y 0).length := by rw [hY]; rfl
  have hfin : Y l.length = X := by rw [hY]; exact hfin
  clear hY hlb hb0 hz ho h0
  refine S_ Try.func40 (by kernel_rfl) rfl (Nat.le_of_ble_eq_true rfl) ?_
  show avc Try.prog SP _ _ _ _ _ _
  dsimp only [avc, startS, Array.toList, Try.f40]
  repeat' ((try conv => whnf) <;> (first | (refine Hold.mk ?_) | (refine And.intro (fun _ => ?_) (fun h => Bool.noConfusion h)) | (refine And.intro (fun h => Bool.noConfusion h) (fun _ => ?_)) | (refine And.intro (Nat.le_of_ble_eq_true rfl) ?_) | (refine And.intro (fun _ => ?_) (fun h => Bool.noConfusion ((beq_self_eq_true _).symm.trans h))) | (refine And.intro (fun h => Bool.noConfusion ((bne_self_eq_false _).symm.trans h)) (fun _ => ?_)) | (refine And.intro (fun h => Bool.noConfusion ((beq_self_eq_true _).symm.trans h)) (fun _ => ?_)) | (refine And.intro (fun _ => ?_) (fun h => Bool.noConfusion ((bne_self_eq_false _).symm.trans h))) | (refine ⟨_, c1, ?_⟩) | (refine ⟨_, c2, ?_⟩) | (refine ⟨true, ?_⟩) | (exact True.intro) | (refine And.intro (show eqT _ _ = true by kernel_rfl) ?_) | (refine And.intro rfl ?_) | (refine And.intro (And.intro (Nat.le_of_ble_eq_true rfl) rfl) ?_) | (refine And.intro (And.intro rfl rfl) ?_) | (refine And.intro (And.intro rfl (And.intro rfl rfl)) ?_) | (exact And.intro rfl (And.intro rfl rfl)) | (exact And.intro rfl rfl) | (refine br_lt ?_ ?_ <;> intro hBr <;> (first | (exfalso; omega) | (exfalso; contradiction) | (exfalso; exact hBr rfl) | skip)) | (refine br_lt_ ?_ ?_ <;> intro hBr <;> (first | (exfalso; omega) | (exfalso; contradiction) | (exfalso; exact hBr rfl) | skip)) | (refine br_le ?_ ?_ <;> intro hBr <;> (first | (exfalso; omega) | (exfalso; contradiction) | (exfalso; exact hBr rfl) | skip)) | (refine br_le_ ?_ ?_ <;> intro hBr <;> (first | (exfalso; omega) | (exfalso; contradiction) | (exfalso; exact hBr rfl) | skip)) | (refine br_eq ?_ ?_ <;> intro hBr <;> (first | (exfalso; omega) | (exfalso; contradiction) | (exfalso; exact hBr rfl) | skip)) | (refine br_eq_ ?_ ?_ <;> intro hBr <;> (first | (exfalso; omega) | (exfalso; contradiction) | (exfalso; exact hBr rfl) | skip)) | (refine br_seq ?_ ?_ <;> intro hBr <;> (first | (exfalso; omega) | (exfalso; contradiction) | (exfalso; exact hBr rfl) | skip)) | (refine br_seq_ ?_ ?_ <;> intro hBr <;> (first | (exfalso; omega) | (exfalso; contradiction) | (exfalso; exact hBr rfl) | skip)) | (refine br_not ?_) | (refine br_not_ ?_) | (refine br_and ?_) | (refine br_and_ ?_) | (refine And.intro (by omega) ?_) | (refine ⟨_, wrap_i64 (by omega), ?_⟩) | (refine ⟨_, wrap_u64 (by omega) (by omega), ?_⟩) | (refine ⟨_, wrap_u8 (by omega) (by omega), ?_⟩) | (refine ⟨_, wrap_u32 (by omega) (by omega), ?_⟩) | (refine ⟨_, wrap_u16 (by omega) (by omega), ?_⟩) | (refine ⟨_, rfl, ?_⟩) | (exact rfl)))
  refine ⟨[22, 20, 21, 5], [], fun vs bl => ∃ i : Nat, i ≤ l.length ∧ (vs = [Z i, .vs l.length (opC l), Z l.length, .sl 0 (Y i).length] ∧ bl = [rowB8 (Y i)]), muI l.length, ?_, ?_⟩
  · refine ⟨0, by omega, ?_, ?_⟩
    · rw [← hln0]; rfl
    · show _ = [(⟨bytesA (Y 0), some 5, true, true⟩ : ABlk)]
      rw [← hst0]
  clear hst0 hln0
  rintro vs bl ⟨i, hi, rfl, rfl⟩
  by_cases hlt : i < l.length
  · have hw := opW hlt
    have hdec := mu_I hlt
    have c := hst i hlt
    generalize l[i] = o at hw c
    clear hst hfin c1 c2 c3
    repeat' ((try conv => whnf) <;> (first | (refine Hold.mk ?_) | (refine And.intro (fun _ => ?_) (fun h => Bool.noConfusion h)) | (refine And.intro (fun h => Bool.noConfusion h) (fun _ => ?_)) | (refine And.intro (Nat.le_of_ble_eq_true rfl) ?_) | (refine And.intro (fun _ => ?_) (fun h => Bool.noConfusion ((beq_self_eq_true _).symm.trans h))) | (refine And.intro (fun h => Bool.noConfusion ((bne_self_eq_false _).symm.trans h)) (fun _ => ?_)) | (refine And.intro (fun h => Bool.noConfusion ((beq_self_eq_true _).symm.trans h)) (fun _ => ?_)) | (refine And.intro (fun _ => ?_) (fun h => Bool.noConfusion ((bne_self_eq_false _).symm.trans h))) | (refine ⟨_, hw, ?_⟩) | (refine ⟨_, _, _, c, ?_⟩) | (exact True.intro) | (refine And.intro (show eqT _ _ = true by kernel_rfl) ?_) | (refine And.intro rfl ?_) | (refine And.intro (And.intro (Nat.le_of_ble_eq_true rfl) rfl) ?_) | (refine And.intro (And.intro rfl rfl) ?_) | (refine And.intro (And.intro rfl (And.intro rfl rfl)) ?_) | (exact And.intro rfl (And.intro rfl rfl)) | (exact And.intro rfl rfl) | (refine br_lt ?_ ?_ <;> intro hBr <;> (first | (exfalso; omega) | (exfalso; contradiction) | (exfalso; exact hBr rfl) | skip)) | (refine br_lt_ ?_ ?_ <;> intro hBr <;> (first | (exfalso; omega) | (exfalso; contradiction) | (exfalso; exact hBr rfl) | skip)) | (refine br_le ?_ ?_ <;> intro hBr <;> (first | (exfalso; omega) | (exfalso; contradiction) | (exfalso; exact hBr rfl) | skip)) | (refine br_le_ ?_ ?_ <;> intro hBr <;> (first | (exfalso; omega) | (exfalso; contradiction) | (exfalso; exact hBr rfl) | skip)) | (refine br_eq ?_ ?_ <;> intro hBr <;> (first | (exfalso; omega) | (exfalso; contradiction) | (exfalso; exact hBr rfl) | skip)) | (refine br_eq_ ?_ ?_ <;> intro hBr <;> (first | (exfalso; omega) | (exfalso; contradiction) | (exfalso; exact hBr rfl) | skip)) | (refine br_seq ?_ ?_ <;> intro hBr <;> (first | (exfalso; omega) | (exfalso; contradiction) | (exfalso; exact hBr rfl) | skip)) | (refine br_seq_ ?_ ?_ <;> intro hBr <;> (first | (exfalso; omega) | (exfalso; contradiction) | (exfalso; exact hBr rfl) | skip)) | (refine br_not ?_) | (refine br_not_ ?_) | (refine br_and ?_) | (refine br_and_ ?_) | (refine And.intro (by omega) ?_) | (refine ⟨_, wrap_i64 (by omega), ?_⟩) | (refine ⟨_, wrap_u64 (by omega) (by omega), ?_⟩) | (refine ⟨_, wrap_u8 (by omega) (by omega), ?_⟩) | (refine ⟨_, wrap_u32 (by omega) (by omega), ?_⟩) | (refine ⟨_, wrap_u16 (by omega) (by omega), ?_⟩) | (refine ⟨_, rfl, ?_⟩) | (exact rfl)))
    exact ⟨⟨i + 1, by omega, rfl, rfl⟩, hdec _ _ _ _⟩
  · obtain rfl : i = l.length := by omega
    rw [hfin]
    clear hst
    repeat' ((try conv => whnf) <;> (first | (refine Hold.mk ?_) | (refine And.intro (fun _ => ?_) (fun h => Bool.noConfusion h)) | (refine And.intro (fun h => Bool.noConfusion h) (fun _ => ?_)) | (refine And.intro (Nat.le_of_ble_eq_true rfl) ?_) | (refine And.intro (fun _ => ?_) (fun h => Bool.noConfusion ((beq_self_eq_true _).symm.trans h))) | (refine And.intro (fun h => Bool.noConfusion ((bne_self_eq_false _).symm.trans h)) (fun _ => ?_)) | (refine And.intro (fun h => Bool.noConfusion ((beq_self_eq_true _).symm.trans h)) (fun _ => ?_)) | (refine And.intro (fun _ => ?_) (fun h => Bool.noConfusion ((bne_self_eq_false _).symm.trans h))) | (refine ⟨X, ⟨rfl, rfl⟩, ?_⟩) | (refine ⟨_, c3, ?_⟩) | (exact True.intro) | (refine And.intro (show eqT _ _ = true by kernel_rfl) ?_) | (refine And.intro rfl ?_) | (refine And.intro (And.intro (Nat.le_of_ble_eq_true rfl) rfl) ?_) | (refine And.intro (And.intro rfl rfl) ?_) | (refine And.intro (And.intro rfl (And.intro rfl rfl)) ?_) | (exact And.intro rfl (And.intro rfl rfl)) | (exact And.intro rfl rfl) | (refine br_lt ?_ ?_ <;> intro hBr <;> (first | (exfalso; omega) | (exfalso; contradiction) | (exfalso; exact hBr rfl) | skip)) | (refine br_lt_ ?_ ?_ <;> intro hBr <;> (first | (exfalso; omega) | (exfalso; contradiction) | (exfalso; exact hBr rfl) | skip)) | (refine br_le ?_ ?_ <;> intro hBr <;> (first | (exfalso; omega) | (exfalso; contradiction) | (exfalso; exact hBr rfl) | skip)) | (refine br_le_ ?_ ?_ <;> intro hBr <;> (first | (exfalso; omega) | (exfalso; contradiction) | (exfalso; exact hBr rfl) | skip)) | (refine br_eq ?_ ?_ <;> intro hBr <;> (first | (exfalso; omega) | (exfalso; contradiction) | (exfalso; exact hBr rfl) | skip)) | (refine br_eq_ ?_ ?_ <;> intro hBr <;> (first | (exfalso; omega) | (exfalso; contradiction) | (exfalso; exact hBr rfl) | skip)) | (refine br_seq ?_ ?_ <;> intro hBr <;> (first | (exfalso; omega) | (exfalso; contradiction) | (exfalso; exact hBr rfl) | skip)) | (refine br_seq_ ?_ ?_ <;> intro hBr <;> (first | (exfalso; omega) | (exfalso; contradiction) | (exfalso; exact hBr rfl) | skip)) | (refine br_not ?_) | (refine br_not_ ?_) | (refine br_and ?_) | (refine br_and_ ?_) | (refine And.intro (by omega) ?_) | (refine ⟨_, wrap_i64 (by omega), ?_⟩) | (refine ⟨_, wrap_u64 (by omega) (by omega), ?_⟩) | (refine ⟨_, wrap_u8 (by omega) (by omega), ?_⟩) | (refine ⟨_, wrap_u32 (by omega) (by omega), ?_⟩) | (refine ⟨_, wrap_u16 (by omega) (by omega), ?_⟩) | (refine ⟨_, rfl, ?_⟩) | (exact rfl)))
end Go.Proofs.Ytdicpbecdhaphaa.Av
