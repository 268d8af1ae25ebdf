/- disk: the law on a torn write, walked; at the model. No conditions. -/
import Derived.Test.YtdjdcpbakeahcaaDisk14
namespace Go.Proofs.Ytdjdcpbakeahcaa.Av
open Go Go.RowKit Go.ChangeShapes Go.WideShapes
set_option linter.unusedVariables false
set_option linter.unusedSimpArgs false
set_option maxRecDepth 100000
set_option maxHeartbeats 8000000

abbrev tr8 (a b c : Nat) : AV := .ex (.agg #[.int .u8 (a : Int), .int .u8 (b : Int), .int .u8 (c : Int)])
abbrev trS (a b c : Key) : AV := .ex (.agg #[.string (bs a), .string (bs b), .string (bs c)])
theorem dtears_long (n0 n1 n2 : Nat) (l0 l1 l2 : Key) (cut : Int) (h : 100 < (bs l0).size ∨ 100 < (bs l1).size ∨ 100 < (bs l2).size) : SP 6 [tr8 n0 n1 n2, trS l0 l1 l2, Z cut] (B true) := by
  have aw := dawake_ok
  refine S_ Try.func6 (by kernel_rfl) rfl (Nat.le_of_ble_eq_true rfl) ?_
  show avc Try.prog SP _ _ _ _ _ _
  dsimp only [avc, startS, Array.toList, Try.f6]
  repeat' ((try conv => whnf) <;> (first | (refine Hold.mk ?_) | (refine And.intro (fun _ => ?_) (fun h => Bool.noConfusion h)) | (refine And.intro (fun h => Bool.noConfusion h) (fun _ => ?_)) | (refine And.intro (Nat.le_of_ble_eq_true rfl) ?_) | (refine And.intro (fun _ => ?_) (fun h => Bool.noConfusion ((beq_self_eq_true _).symm.trans h))) | (refine And.intro (fun h => Bool.noConfusion ((bne_self_eq_false _).symm.trans h)) (fun _ => ?_)) | (refine And.intro (fun h => Bool.noConfusion ((beq_self_eq_true _).symm.trans h)) (fun _ => ?_)) | (refine And.intro (fun _ => ?_) (fun h => Bool.noConfusion ((bne_self_eq_false _).symm.trans h))) | (refine And.intro (show inR _ from ⟨by omega, by omega⟩) ?_) | (refine ⟨_, aw, ?_⟩) | (refine ⟨[], [0, 0, 3, 0, 8, 24, 0, 120, 255, 511, 1023, 1023, 4095, 1023, 9215, 25599, 1023, 123903, 262143, 524287, 1048575, 2097151, 2097151, 8388607, 16777215, 33554431, 67108863, 134217727, 268435455], len_ok rfl (by kernel_rfl), ?_⟩) | (refine ⟨[], [0, 1, 3, 0, 15, 0, 32, 96, 0, 480, 31, 2047], len_ok rfl (by kernel_rfl), ?_⟩) | (exact True.intro) | (refine And.intro (show eqT _ _ = true by kernel_rfl) ?_) | (refine And.intro rfl ?_) | (refine And.intro (And.intro (Nat.le_of_ble_eq_true rfl) rfl) ?_) | (refine And.intro (And.intro rfl rfl) ?_) | (refine And.intro (And.intro rfl (And.intro rfl rfl)) ?_) | (exact And.intro rfl (And.intro rfl rfl)) | (exact And.intro rfl rfl) | (refine br_lt ?_ ?_ <;> intro hBr <;> (first | (exfalso; omega) | (exfalso; contradiction) | (exfalso; exact hBr rfl) | skip)) | (refine br_lt_ ?_ ?_ <;> intro hBr <;> (first | (exfalso; omega) | (exfalso; contradiction) | (exfalso; exact hBr rfl) | skip)) | (refine br_le ?_ ?_ <;> intro hBr <;> (first | (exfalso; omega) | (exfalso; contradiction) | (exfalso; exact hBr rfl) | skip)) | (refine br_le_ ?_ ?_ <;> intro hBr <;> (first | (exfalso; omega) | (exfalso; contradiction) | (exfalso; exact hBr rfl) | skip)) | (refine br_eq ?_ ?_ <;> intro hBr <;> (first | (exfalso; omega) | (exfalso; contradiction) | (exfalso; exact hBr rfl) | skip)) | (refine br_eq_ ?_ ?_ <;> intro hBr <;> (first | (exfalso; omega) | (exfalso; contradiction) | (exfalso; exact hBr rfl) | skip)) | (refine br_seq ?_ ?_ <;> intro hBr <;> (first | (exfalso; omega) | (exfalso; contradiction) | (exfalso; exact hBr rfl) | skip)) | (refine br_seq_ ?_ ?_ <;> intro hBr <;> (first | (exfalso; omega) | (exfalso; contradiction) | (exfalso; exact hBr rfl) | skip)) | (refine br_not ?_) | (refine br_not_ ?_) | (refine br_and ?_) | (refine br_and_ ?_) | (refine And.intro (by omega) ?_) | (refine ⟨_, wrap_i64 (by omega), ?_⟩) | (refine ⟨_, wrap_u64 (by omega) (by omega), ?_⟩) | (refine ⟨_, wrap_u8 (by omega) (by omega), ?_⟩) | (refine ⟨_, wrap_u32 (by omega) (by omega), ?_⟩) | (refine ⟨_, wrap_u16 (by omega) (by omega), ?_⟩) | (refine ⟨_, rfl, ?_⟩) | (exact rfl)))
theorem dtears_walk (n0 n1 n2 : Nat) (l0 l1 l2 F0 F1 F2 z X : Key) (cut c : Int) (k a b : Nat) (L0 L1 L2 : List Key) (v0 v1 v2 : Key) (h8 : n0 < 256 ∧ n1 < 256 ∧ n2 < 256) (hl : ¬ (100 < (bs l0).size ∨ 100 < (bs l1).size ∨ 100 < (bs l2).size))
    (hk : (2 : Int) + (n0 : Int) % 18 = k) (hk0 : 2 ≤ k) (ha : (n1 : Int) % k = a) (hb : (n2 : Int) % k = b) (hak : a < k) (hbk : b < k) 
    (cF0 : SP 27 [T l0] (T F0)) (cF1 : SP 27 [T l1] (T F1)) (cF2 : SP 27 [T l2] (T F2)) (cz : SP 27 [T []] (T z))
    (c1 : SM 28 [Z k] [] [] (.tup [.ptr 0 0, Z 0]) (dsk .nil L0 [] 0)) (c2 : SM 19 [.ptr 0 0, Z a, T F0] (dsk .nil L0 [] 0) [.ptr 0 0] (Z 0) (dsk (.row false) L1 [(a, F0, v0)] 1))
    (c3 : SM 20 [.ptr 0 0] (dsk (.row false) L1 [(a, F0, v0)] 1) [.ptr 0 0] (Z 0) (dsk .nil L1 [] 1))
    (c4 : SM 19 [.ptr 0 0, Z b, T F2] (dsk .nil L1 [] 1) [.ptr 0 0] (Z 0) (dsk (.row false) L2 [(b, F2, v1)] 2))
    (c5 : ∃ L3, SM 19 [.ptr 0 0, Z a, T F1] (dsk (.row false) L2 [(b, F2, v1)] 2) [.ptr 0 0] (Z 0) (dsk (.row false) L3 [(b, F2, v1), (a, F1, v2)] 3) ∧ (∃ L4, SM 21 [.ptr 0 0, planA ⟨0, 1, cut⟩] (dsk (.row false) L3 [(b, F2, v1), (a, F1, v2)] 3) [.ptr 0 0] (Z 0) (dsk .nil L4 [] 3) ∧ 
      SM 17 [.ptr 0 0, Z a] (dsk .nil L4 [] 3) [.ptr 0 0] (.tup [T X, Z 0]) (dsk .nil L4 [] 3) ∧ (a ≠ b → SM 17 [.ptr 0 0, Z b] (dsk .nil L4 [] 3) [.ptr 0 0] (.tup [T z, Z 0]) (dsk .nil L4 [] 3))))
    (hX : (bs X).size = 64) (hF0 : (bs F0).size = 64) (hF1 : (bs F1).size = 64) (hc0 : 0 ≤ c ∧ c ≤ 64) (hc : (if (if 64 < cut then 64 else cut) > 0 then (if 64 < cut then 64 else cut) else 0) = c)
    (t1 : (((bs X).extract (0 : Int).toNat c.toNat).toList == ((bs F1).extract (0 : Int).toNat c.toNat).toList) = true) (t2 : (((bs X).extract c.toNat ((bs X).size : Int).toNat).toList == ((bs F0).extract c.toNat ((bs F0).size : Int).toNat).toList) = true) :
    SP 6 [tr8 n0 n1 n2, trS l0 l1 l2, Z cut] (B true) := by
  have aw := dawake_ok
  obtain ⟨L3, c5, L4, c6, c7, c8⟩ := c5
  obtain ⟨h80, h81, h82⟩ := h8
  subst hc
  obtain ⟨hc1, hc2⟩ := hc0
  rw [← ha] at c2 c5 c7
  rw [← hb] at c4 c8
  rw [← hk] at c1 c2 c4 c5 c7 c8 ha hb
  have p0 : (0 : Int) < 2 + (n0 : Int) % 18 := by omega
  by_cases hab : a = b
  · have hab : (n1 : Int) % (2 + (n0 : Int) % 18) = (n2 : Int) % (2 + (n0 : Int) % 18) := by rw [ha, hb, hab]
    clear c8 t1 t2 ha hb hk
    refine S_ Try.func6 (by kernel_rfl) rfl (Nat.le_of_ble_eq_true rfl) ?_
    show avc Try.prog SP _ _ _ _ _ _
    dsimp only [avc, startS, Array.toList, Try.f6]
    repeat' ((try conv => whnf) <;> (first | (refine Hold.mk ?_) | (refine And.intro (fun _ => ?_) (fun h => Bool.noConfusion h)) | (refine And.intro (fun h => Bool.noConfusion h) (fun _ => ?_)) | (refine And.intro (Nat.le_of_ble_eq_true rfl) ?_) | (refine And.intro (fun _ => ?_) (fun h => Bool.noConfusion ((beq_self_eq_true _).symm.trans h))) | (refine And.intro (fun h => Bool.noConfusion ((bne_self_eq_false _).symm.trans h)) (fun _ => ?_)) | (refine And.intro (fun h => Bool.noConfusion ((beq_self_eq_true _).symm.trans h)) (fun _ => ?_)) | (refine And.intro (fun _ => ?_) (fun h => Bool.noConfusion ((bne_self_eq_false _).symm.trans h))) | (refine And.intro (show inR _ from ⟨by omega, by omega⟩) ?_) | (refine ⟨_, aw, ?_⟩) | (refine ⟨_, cF0, ?_⟩) | (refine ⟨_, _, _, c1, ?_⟩) | (refine ⟨_, _, _, c2, ?_⟩) | (refine ⟨_, _, _, c3, ?_⟩) | (refine ⟨[], [0, 0, 3, 0, 8, 24, 0, 120, 255, 511, 1023, 1023, 4095, 1023, 9215, 25599, 1023, 123903, 262143, 524287, 1048575, 2097151, 2097151, 8388607, 16777215, 33554431, 67108863, 134217727, 268435455], len_ok rfl (by kernel_rfl), ?_⟩) | (refine ⟨[], [0, 1, 3, 0, 15, 0, 32, 96, 0, 480, 31, 2047], len_ok rfl (by kernel_rfl), ?_⟩) | (exact True.intro) | (refine And.intro (show eqT _ _ = true by kernel_rfl) ?_) | (refine And.intro rfl ?_) | (refine And.intro (And.intro (Nat.le_of_ble_eq_true rfl) rfl) ?_) | (refine And.intro (And.intro rfl rfl) ?_) | (refine And.intro (And.intro rfl (And.intro rfl rfl)) ?_) | (exact And.intro rfl (And.intro rfl rfl)) | (exact And.intro rfl rfl) | (refine br_lt ?_ ?_ <;> intro hBr <;> (first | (exfalso; omega) | (exfalso; contradiction) | (exfalso; exact hBr rfl) | skip)) | (refine br_lt_ ?_ ?_ <;> intro hBr <;> (first | (exfalso; omega) | (exfalso; contradiction) | (exfalso; exact hBr rfl) | skip)) | (refine br_le ?_ ?_ <;> intro hBr <;> (first | (exfalso; omega) | (exfalso; contradiction) | (exfalso; exact hBr rfl) | skip)) | (refine br_le_ ?_ ?_ <;> intro hBr <;> (first | (exfalso; omega) | (exfalso; contradiction) | (exfalso; exact hBr rfl) | skip)) | (refine br_eq ?_ ?_ <;> intro hBr <;> (first | (exfalso; omega) | (exfalso; contradiction) | (exfalso; exact hBr rfl) | skip)) | (refine br_eq_ ?_ ?_ <;> intro hBr <;> (first | (exfalso; omega) | (exfalso; contradiction) | (exfalso; exact hBr rfl) | skip)) | (refine br_seq ?_ ?_ <;> intro hBr <;> (first | (exfalso; omega) | (exfalso; contradiction) | (exfalso; exact hBr rfl) | skip)) | (refine br_seq_ ?_ ?_ <;> intro hBr <;> (first | (exfalso; omega) | (exfalso; contradiction) | (exfalso; exact hBr rfl) | skip)) | (refine br_not ?_) | (refine br_not_ ?_) | (refine br_and ?_) | (refine br_and_ ?_) | (refine And.intro (by omega) ?_) | (refine ⟨_, wrap_i64 (by omega), ?_⟩) | (refine ⟨_, wrap_u64 (by omega) (by omega), ?_⟩) | (refine ⟨_, wrap_u8 (by omega) (by omega), ?_⟩) | (refine ⟨_, wrap_u32 (by omega) (by omega), ?_⟩) | (refine ⟨_, wrap_u16 (by omega) (by omega), ?_⟩) | (refine ⟨_, rfl, ?_⟩) | (exact rfl)))
  · have c8 := c8 hab
    have hab : ¬ (n1 : Int) % (2 + (n0 : Int) % 18) = (n2 : Int) % (2 + (n0 : Int) % 18) := by rw [ha, hb]; omega
    clear ha hb hk
    refine S_ Try.func6 (by kernel_rfl) rfl (Nat.le_of_ble_eq_true rfl) ?_
    show avc Try.prog SP _ _ _ _ _ _
    dsimp only [avc, startS, Array.toList, Try.f6]
    repeat' ((try conv => whnf) <;> (first | (refine Hold.mk ?_) | (refine And.intro (fun _ => ?_) (fun h => Bool.noConfusion h)) | (refine And.intro (fun h => Bool.noConfusion h) (fun _ => ?_)) | (refine And.intro (Nat.le_of_ble_eq_true rfl) ?_) | (refine And.intro (fun _ => ?_) (fun h => Bool.noConfusion ((beq_self_eq_true _).symm.trans h))) | (refine And.intro (fun h => Bool.noConfusion ((bne_self_eq_false _).symm.trans h)) (fun _ => ?_)) | (refine And.intro (fun h => Bool.noConfusion ((beq_self_eq_true _).symm.trans h)) (fun _ => ?_)) | (refine And.intro (fun _ => ?_) (fun h => Bool.noConfusion ((bne_self_eq_false _).symm.trans h))) | (refine And.intro (show inR _ from ⟨by omega, by omega⟩) ?_) | (refine ⟨_, aw, ?_⟩) | (refine br_t t1 ?_) | (refine br_t t2 ?_) | (refine ⟨_, cF0, ?_⟩) | (refine ⟨_, cF1, ?_⟩) | (refine ⟨_, cF2, ?_⟩) | (refine ⟨_, cz, ?_⟩) | (refine ⟨_, _, _, c1, ?_⟩) | (refine ⟨_, _, _, c2, ?_⟩) | (refine ⟨_, _, _, c3, ?_⟩) | (refine ⟨_, _, _, c4, ?_⟩) | (refine ⟨_, _, _, c5, ?_⟩) | (refine ⟨_, _, _, c6, ?_⟩) | (refine ⟨_, _, _, c7, ?_⟩) | (refine ⟨_, _, _, c8, ?_⟩) | (refine ⟨[], [0, 0, 3, 0, 8, 24, 0, 120, 255, 511, 1023, 1023, 4095, 1023, 9215, 25599, 1023, 123903, 262143, 524287, 1048575, 2097151, 2097151, 8388607, 16777215, 33554431, 67108863, 134217727, 268435455], len_ok rfl (by kernel_rfl), ?_⟩) | (refine ⟨[], [0, 1, 3, 0, 15, 0, 32, 96, 0, 480, 31, 2047], len_ok rfl (by kernel_rfl), ?_⟩) | (exact True.intro) | (refine And.intro (show eqT _ _ = true by kernel_rfl) ?_) | (refine And.intro rfl ?_) | (refine And.intro (And.intro (Nat.le_of_ble_eq_true rfl) rfl) ?_) | (refine And.intro (And.intro rfl rfl) ?_) | (refine And.intro (And.intro rfl (And.intro rfl rfl)) ?_) | (exact And.intro rfl (And.intro rfl rfl)) | (exact And.intro rfl rfl) | (refine br_lt ?_ ?_ <;> intro hBr <;> (first | (exfalso; omega) | (exfalso; contradiction) | (exfalso; exact hBr rfl) | skip)) | (refine br_lt_ ?_ ?_ <;> intro hBr <;> (first | (exfalso; omega) | (exfalso; contradiction) | (exfalso; exact hBr rfl) | skip)) | (refine br_le ?_ ?_ <;> intro hBr <;> (first | (exfalso; omega) | (exfalso; contradiction) | (exfalso; exact hBr rfl) | skip)) | (refine br_le_ ?_ ?_ <;> intro hBr <;> (first | (exfalso; omega) | (exfalso; contradiction) | (exfalso; exact hBr rfl) | skip)) | (refine br_eq ?_ ?_ <;> intro hBr <;> (first | (exfalso; omega) | (exfalso; contradiction) | (exfalso; exact hBr rfl) | skip)) | (refine br_eq_ ?_ ?_ <;> intro hBr <;> (first | (exfalso; omega) | (exfalso; contradiction) | (exfalso; exact hBr rfl) | skip)) | (refine br_seq ?_ ?_ <;> intro hBr <;> (first | (exfalso; omega) | (exfalso; contradiction) | (exfalso; exact hBr rfl) | skip)) | (refine br_seq_ ?_ ?_ <;> intro hBr <;> (first | (exfalso; omega) | (exfalso; contradiction) | (exfalso; exact hBr rfl) | skip)) | (refine br_not ?_) | (refine br_not_ ?_) | (refine br_and ?_) | (refine br_and_ ?_) | (refine And.intro (by omega) ?_) | (refine ⟨_, wrap_i64 (by omega), ?_⟩) | (refine ⟨_, wrap_u64 (by omega) (by omega), ?_⟩) | (refine ⟨_, wrap_u8 (by omega) (by omega), ?_⟩) | (refine ⟨_, wrap_u32 (by omega) (by omega), ?_⟩) | (refine ⟨_, wrap_u16 (by omega) (by omega), ?_⟩) | (refine ⟨_, rfl, ?_⟩) | (exact rfl)))
theorem dtears_ok (n0 n1 n2 : Nat) (l0 l1 l2 : Key) (cut : Int) (h0 : n0 < 256) (h1 : n1 < 256) (h2 : n2 < 256) : SP 6 [tr8 n0 n1 n2, trS l0 l1 l2, Z cut] (B true) := by
  by_cases hl : 100 < (bs l0).size ∨ 100 < (bs l1).size ∨ 100 < (bs l2).size
  · exact dtears_long n0 n1 n2 l0 l1 l2 cut hl
  obtain ⟨k, hk⟩ : ∃ k : Nat, (2 : Int) + (n0 : Int) % 18 = k := ⟨(2 + (n0 : Int) % 18).toNat, by omega⟩
  have hk0 : 2 ≤ k := by omega
  have hk1 : k ≤ 20 := by omega
  have ha0 := Int.emod_nonneg (n1 : Int) (show (k : Int) ≠ 0 by omega)
  have ha1 := Int.emod_lt_of_pos (n1 : Int) (show (0 : Int) < k by omega)
  have hb0 := Int.emod_nonneg (n2 : Int) (show (k : Int) ≠ 0 by omega)
  have hb1 := Int.emod_lt_of_pos (n2 : Int) (show (0 : Int) < k by omega)
  obtain ⟨a, ha⟩ : ∃ a : Nat, (n1 : Int) % k = a := ⟨((n1 : Int) % k).toNat, by omega⟩
  obtain ⟨b, hb⟩ : ∃ b : Nat, (n2 : Int) % k = b := ⟨((n2 : Int) % k).toNat, by omega⟩
  have hak : a < k := by omega
  have hbk : b < k := by omega
  have cF0 := full_ok l0
  have cF1 := full_ok l1
  have cF2 := full_ok l2
  have cz := full_ok []
  rw [show fullK [] = zK by kernel_rfl] at cz
  have hF0 := fullK_len l0
  have hF1 := fullK_len l1
  have hF2 := fullK_len l2
  generalize fullK l0 = F0 at *
  generalize fullK l1 = F1 at *
  generalize fullK l2 = F2 at *
  have c1 := dnew_ok (n := k) (by omega) (by omega)
  have e0 : (newL k).length = k := newL_len k
  have s0 := newL_sec k
  have z0 : ∀ i (h : i < (newL k).length), (newL k)[i] = zK := fun i h => by simp [newL]
  generalize newL k = L0 at *
  have c2 := dwrite_yes .nil L0 [] 0 (i := a) F0 (by omega) hF0 rfl (show 0 ≤ 1000 by omega) (by omega) (by omega)
  have e1 : (L0.set a F0).length = k := by rw [List.length_set]; exact e0
  have s1 : Sec (L0.set a F0) := s0.set hF0
  have g1 : ∀ h : a < (L0.set a F0).length, (L0.set a F0)[a] = F0 := fun h => by rw [List.getElem_set_self]
  have g2 : a ≠ b → ∀ h : b < (L0.set a F0).length, (L0.set a F0)[b] = zK := fun hne h => by rw [List.getElem_set_ne hne]; exact z0 _ _
  generalize L0.set a F0 = L1 at *
  have c3 := dsync_ok (.row false) L1 [(a, F0, L0[a]'(by omega))] 1
  have c4 := dwrite_yes .nil L1 [] 1 (i := b) F2 (by omega) hF2 rfl (show 0 ≤ 1000 by omega) (by omega) (by omega)
  have e2 : (L1.set b F2).length = k := by rw [List.length_set]; exact e1
  have c5 := dwrite_yes (.row false) (L1.set b F2) ([] ++ [(b, F2, L1[b]'(by omega))]) 2 (i := a) F1 (by omega) hF1 trivial (Nat.le_of_ble_eq_true rfl) (by omega) (by omega)
  have e3 : ((L1.set b F2).set a F1).length = k := by rw [List.length_set]; exact e2
  have s2 : Sec (L1.set b F2) := s1.set hF2
  have s3 : Sec ((L1.set b F2).set a F1) := s2.set hF1
  have hv2 : ((L1.set b F2)[a]'(by omega)).length = 64 := s2 _ (List.getElem_mem _)
  have hv1 : (L1[b]'(by omega)).length = 64 := s1 _ (List.getElem_mem _)
  have hw : WrOk [(b, F2, L1[b]'(by omega)), (a, F1, (L1.set b F2)[a]'(by omega))] ((L1.set b F2).set a F1).length := fun x hx => by
    simp only [List.mem_cons, List.not_mem_nil, or_false] at hx
    rcases hx with rfl | rfl
    · exact ⟨by show b < _; omega, hF2, hv1⟩
    · exact ⟨by show a < _; omega, hF1, hv2⟩
  have c6 := dcrash_ok (.row false) ((L1.set b F2).set a F1) [(b, F2, L1[b]'(by omega)), (a, F1, (L1.set b F2)[a]'(by omega))] 3 ⟨0, 1, cut⟩ (show 0 < 18446744073709551616 by decide) trivial (Nat.le_of_ble_eq_true rfl) hw s3
  have hu : undoL [(b, F2, L1[b]'(by omega)), (a, F1, (L1.set b F2)[a]'(by omega))] ((L1.set b F2).set a F1) = L1 := by
    show (((L1.set b F2).set a F1).set a _).set b _ = L1
    rw [List.set_set, List.set_getElem_self, List.set_set, List.set_getElem_self]
  have hc := clampI_in cut
  have hkp : keepL ⟨0, 1, cut⟩ 0 [(b, F2, L1[b]'(by omega)), (a, F1, (L1.set b F2)[a]'(by omega))] L1 = L1.set a (ovl (clampI cut).toNat F1 F0) := by
    have h1 : L1.set b (ovl (fN ⟨0, 1, cut⟩ 0) F2 (L1[b]?.getD [])) = L1 := by
      rw [show fN ⟨0, 1, cut⟩ 0 = 0 by simp [fN, frontI, bitOf], ovl_zero, secGet (by omega), List.set_getElem_self]
    show (L1.set b (ovl (fN ⟨0, 1, cut⟩ 0) F2 (L1[b]?.getD []))).set a (ovl (fN ⟨0, 1, cut⟩ 1) F1 ((L1.set b (ovl (fN ⟨0, 1, cut⟩ 0) F2 (L1[b]?.getD [])))[a]?.getD [])) = _
    rw [h1, secGet (by omega), g1 (by omega), show fN ⟨0, 1, cut⟩ 1 = (clampI cut).toNat by simp [fN, frontI]]
  rw [hu, hkp] at c6
  have hX : (ovl (clampI cut).toNat F1 F0).length = 64 := ovl_len hF1 hF0 (by omega)
  have e4 : (L1.set a (ovl (clampI cut).toNat F1 F0)).length = k := by rw [List.length_set]; exact e1
  have c7 := dread_yes .nil (L1.set a (ovl (clampI cut).toNat F1 F0)) [] 3 (i := a) (by omega)
  rw [List.getElem_set_self] at c7
  have c8 : a ≠ b → SM 17 [.ptr 0 0, Z b] (dsk .nil (L1.set a (ovl (clampI cut).toNat F1 F0)) [] 3) [.ptr 0 0] (.tup [T zK, Z 0]) (dsk .nil (L1.set a (ovl (clampI cut).toNat F1 F0)) [] 3) := fun hne => by
    have := dread_yes .nil (L1.set a (ovl (clampI cut).toNat F1 F0)) [] 3 (i := b) (by omega)
    rw [List.getElem_set_ne hne, g2 hne (by omega)] at this
    exact this
  have eX : (bs (ovl (clampI cut).toNat F1 F0)).size = 64 := by rw [bs_size]; exact hX
  have eF0 : (bs F0).size = 64 := by rw [bs_size]; exact hF0
  have eF1 : (bs F1).size = 64 := by rw [bs_size]; exact hF1
  refine dtears_walk n0 n1 n2 l0 l1 l2 F0 F1 F2 zK (ovl (clampI cut).toNat F1 F0) cut (clampI cut) k a b L0 L1 (L1.set b F2) (L0[a]'(by omega)) (L1[b]'(by omega)) ((L1.set b F2)[a]'(by omega)) ⟨h0, h1, h2⟩ hl hk hk0 ha hb hak hbk cF0 cF1 cF2 cz c1 c2 c3 c4 ⟨_, c5, _, c6, c7, c8⟩ eX eF0 eF1 hc rfl ?_ ?_
  · have : (bs (ovl (clampI cut).toNat F1 F0)).extract (0 : Int).toNat (clampI cut).toNat = (bs F1).extract (0 : Int).toNat (clampI cut).toNat := by
      rw [bs_cut, bs_cut]
      congr 1
      show ((ovl _ F1 F0).drop 0).take (_ - 0) = (F1.drop 0).take (_ - 0)
      rw [List.drop_zero, List.drop_zero, Nat.sub_zero]
      unfold ovl
      rw [List.take_append_of_le_length (by rw [List.length_take]; omega), List.take_take, Nat.min_self]
    rw [this]; exact beq_self_eq_true _
  · have : (bs (ovl (clampI cut).toNat F1 F0)).extract (clampI cut).toNat ((bs (ovl (clampI cut).toNat F1 F0)).size : Int).toNat = (bs F0).extract (clampI cut).toNat ((bs F0).size : Int).toNat := by
      rw [eX, eF0, bs_cut, bs_cut]
      congr 1
      unfold ovl
      rw [List.drop_append_of_le_length (by rw [List.length_take]; omega), List.drop_of_length_le (by rw [List.length_take]; omega), List.nil_append]
    rw [this]; exact beq_self_eq_true _
theorem u8x3_of {cs : Array Value} (h : CellsOk [.int .u8, .int .u8, .int .u8] cs.toList) : ∃ a b c : Nat, a < 256 ∧ b < 256 ∧ c < 256 ∧ cs = #[.int .u8 (a : Int), .int .u8 (b : Int), .int .u8 (c : Int)] := by
  obtain ⟨v, q1, e1, ⟨u, rfl, hu⟩, hq1⟩ := h.cons_
  obtain ⟨v, q2, rfl, ⟨t, rfl, ht⟩, hq2⟩ := hq1.cons_
  obtain ⟨v, q3, rfl, ⟨c, rfl, hc⟩, hq3⟩ := hq2.cons_
  have := hq3.empty_
  subst this
  have b1 := bounds_u8 hu
  have b2 := bounds_u8 ht
  have b3 := bounds_u8 hc
  refine ⟨u.toNat, t.toNat, c.toNat, by omega, by omega, by omega, ?_⟩
  apply Array.ext'
  rw [e1, Int.toNat_of_nonneg b1.1, Int.toNat_of_nonneg b2.1, Int.toNat_of_nonneg b3.1]
theorem str3_of {cs : Array Value} (h : CellsOk [.str, .str, .str] cs.toList) : ∃ a b c : Key, cs = #[.string (bs a), .string (bs b), .string (bs c)] := by
  obtain ⟨v, q1, e1, ⟨u, rfl, hu⟩, hq1⟩ := h.cons_
  obtain ⟨v, q2, rfl, ⟨t, rfl, ht⟩, hq2⟩ := hq1.cons_
  obtain ⟨v, q3, rfl, ⟨c, rfl, hc⟩, hq3⟩ := hq2.cons_
  have := hq3.empty_
  subst this
  exact ⟨u, t, c, Array.ext' e1⟩
theorem diskTears_walk (cs ds : Array Value) (cut : Int) (w : World) (h1 : CellsOk [.int .u8, .int .u8, .int .u8] cs.toList) (h2 : CellsOk [.str, .str, .str] ds.toList) (hc0 : -9223372036854775808 ≤ cut) (hc1 : cut ≤ 9223372036854775807) :
    Calls Try.prog 6 #[.agg cs, .agg ds, .int .i64 cut] w fun e w' => e = .returned (.bool true) ∧ Below w.heap.size w w' := by
  obtain ⟨a, b, c, ha, hb, hc, rfl⟩ := u8x3_of h1
  obtain ⟨x, y, z, rfl⟩ := str3_of h2
  refine calls_at (avs := [tr8 a b c, trS x y z, Z cut]) (dtears_ok a b c x y z cut ha hb hc) w (fun _ _ => False) (fun _ _ h => h.elim) _ rfl fun j hj => ?_
  match j, hj with
  | 0, _ => exact .ex _ _
  | 1, _ => exact .ex _ _
  | 2, _ => exact .ex _ _
end Go.Proofs.Ytdjdcpbakeahcaa.Av
