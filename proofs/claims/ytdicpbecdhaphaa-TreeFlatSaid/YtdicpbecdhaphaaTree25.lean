/- tree: the law TreeFlat. No conditions. -/
import Derived.Test.YtdicpbecdhaphaaTree21
import Derived.Test.YtdicpbecdhaphaaTree16
namespace Go.Proofs.Ytdicpbecdhaphaa.Av
open Go Go.RowKit Go.ChangeShapes Go.WideShapes Tre
set_option linter.unusedVariables false
set_option linter.unusedSimpArgs false
set_option maxRecDepth 100000
set_option maxHeartbeats 2000000

theorem tflat_over (os : List OpP) (n : Nat) (b : Bool) (c : SP 11 [.vs os.length (opC os)] (Z 1)) (aw : SP 12 [] (B true)) : SP 5 [.vs os.length (opC os), .ex (.int .u16 n), B b] (B true) := by
  refine S_ Try.func5 (by kernel_rfl) rfl (Nat.le_of_ble_eq_true rfl) ?_
  show avc Try.prog SP _ _ _ _ _ _
  dsimp only [avc, startS, Array.toList, Try.f5]
  repeat' ((try conv => whnf) <;> (first | (refine Hold.mk ?_) | (refine And.intro (fun _ => ?_) (fun h => Bool.noConfusion h)) | (refine And.intro (fun h => Bool.noConfusion h) (fun _ => ?_)) | (refine And.intro (Nat.le_of_ble_eq_true rfl) ?_) | (refine And.intro (fun _ => ?_) (fun h => Bool.noConfusion ((beq_self_eq_true _).symm.trans h))) | (refine And.intro (fun h => Bool.noConfusion ((bne_self_eq_false _).symm.trans h)) (fun _ => ?_)) | (refine And.intro (fun h => Bool.noConfusion ((beq_self_eq_true _).symm.trans h)) (fun _ => ?_)) | (refine And.intro (fun _ => ?_) (fun h => Bool.noConfusion ((bne_self_eq_false _).symm.trans h))) | (refine ⟨_, c, ?_⟩) | (refine ⟨_, aw, ?_⟩) | (refine ⟨[], [0, 0, 2, 7, 0, 31], len_ok rfl (by kernel_rfl), ?_⟩) | (exact True.intro) | (refine And.intro (show eqT _ _ = true by kernel_rfl) ?_) | (refine And.intro rfl ?_) | (refine And.intro (And.intro (Nat.le_of_ble_eq_true rfl) rfl) ?_) | (refine And.intro (And.intro rfl rfl) ?_) | (refine And.intro (And.intro rfl (And.intro rfl rfl)) ?_) | (exact And.intro rfl (And.intro rfl rfl)) | (exact And.intro rfl rfl) | (refine br_lt ?_ ?_ <;> intro hBr <;> (first | (exfalso; omega) | (exfalso; contradiction) | (exfalso; exact hBr rfl) | skip)) | (refine br_lt_ ?_ ?_ <;> intro hBr <;> (first | (exfalso; omega) | (exfalso; contradiction) | (exfalso; exact hBr rfl) | skip)) | (refine br_le ?_ ?_ <;> intro hBr <;> (first | (exfalso; omega) | (exfalso; contradiction) | (exfalso; exact hBr rfl) | skip)) | (refine br_le_ ?_ ?_ <;> intro hBr <;> (first | (exfalso; omega) | (exfalso; contradiction) | (exfalso; exact hBr rfl) | skip)) | (refine br_eq ?_ ?_ <;> intro hBr <;> (first | (exfalso; omega) | (exfalso; contradiction) | (exfalso; exact hBr rfl) | skip)) | (refine br_eq_ ?_ ?_ <;> intro hBr <;> (first | (exfalso; omega) | (exfalso; contradiction) | (exfalso; exact hBr rfl) | skip)) | (refine br_seq ?_ ?_ <;> intro hBr <;> (first | (exfalso; omega) | (exfalso; contradiction) | (exfalso; exact hBr rfl) | skip)) | (refine br_seq_ ?_ ?_ <;> intro hBr <;> (first | (exfalso; omega) | (exfalso; contradiction) | (exfalso; exact hBr rfl) | skip)) | (refine br_not ?_) | (refine br_not_ ?_) | (refine br_and ?_) | (refine br_and_ ?_) | (refine And.intro (by omega) ?_) | (refine ⟨_, wrap_i64 (by omega), ?_⟩) | (refine ⟨_, wrap_u64 (by omega) (by omega), ?_⟩) | (refine ⟨_, wrap_u8 (by omega) (by omega), ?_⟩) | (refine ⟨_, wrap_u32 (by omega) (by omega), ?_⟩) | (refine ⟨_, wrap_u16 (by omega) (by omega), ?_⟩) | (refine ⟨_, rfl, ?_⟩) | (exact rfl)))
/-- a tree that is Good and not too great -/
structure Low (t : Tr) (n : Nat) : Prop where
  good : Tr.Good t
  cn : t.toL.length ≤ n
  wt : bytesL t.toL ≤ 100000 + 10 * n
theorem Low.put {t : Tr} {n : Nat} (h : Low t n) (k : Key) (hk : k.length ≤ 3) : Low (Tr.put k [] t) (n + 1) := by
  obtain ⟨g, e⟩ := h.good.put k []
  have := putL_len k [] t.toL
  have h1 := h.cn
  have h2 := h.wt
  refine ⟨g, by rw [e]; omega, by rw [e]; simp only [List.length_nil] at this; omega⟩
theorem Low.del {t : Tr} {n : Nat} (h : Low t n) (k : Key) : Low (Tr.del k t) n := by
  obtain ⟨g, e⟩ := h.good.del k
  have := filter_len (fun p => p.1 != k) t.toL
  have h1 := h.cn
  have h2 := h.wt
  refine ⟨g, by rw [e]; exact Nat.le_trans this.1 h1, by rw [e]; exact Nat.le_trans this.2 h2⟩
theorem dig_le : ∀ n : Nat, Tr.dig n ≤ n
  | 0 => by rw [Tr.dig, if_pos rfl]; omega
  | n + 1 => by
    rw [Tr.dig, if_neg (by omega)]
    have := dig_le ((n + 1) / 2)
    omega
theorem Low.flat {t : Tr} {n : Nat} (h : Low t n) (hn : n ≤ 1000) : SP 29 [trA t] (B true) := by
  obtain ⟨f1, f2⟩ := Tr.flat_ok h.good.bal
  have hc := h.cn
  have l := len_ok_ t
  rw [Tr.cn_len] at l f2
  have d := dig_le t.toL.length
  exact flat_walk t t.toL.length t.hh (Tr.dig t.toL.length) (by omega) rfl (by omega) f1 f2 l (depth_ok t)
theorem Low.cput {t : Tr} {n : Nat} (h : Low t n) (hn : n ≤ 1000) (k : Key) (hk : k.length ≤ 3) : SP 13 [trA t, T k, T []] (trA (Tr.put k [] t)) := by
  have h1 := h.cn
  have h2 := h.wt
  exact tput_ok ⟨by rw [Tr.cn_len]; omega, by rw [Tr.wt_len]; simp only [List.length_nil]; omega⟩
theorem Low.cdel {t : Tr} {n : Nat} (h : Low t n) (hn : n ≤ 1000) (k : Key) : SP 14 [trA t, T k] (trA (Tr.del k t)) := by
  have h1 := h.cn
  have h2 := h.wt
  exact tdel_ok ⟨by rw [Tr.cn_len]; omega, by rw [Tr.wt_len]; omega⟩ h.good.srt
/-- the key of a number -/
def keyN (i : Nat) : Key := [107, UInt8.ofNat (i / 100), UInt8.ofNat (i % 100)]
theorem keyN_a {i : Nat} (h : i < 300) : (((UInt8.ofNat (i / 100)).toNat : Nat) : Int) = (i : Int) / 100 := by
  rw [UInt8.toNat_ofNat']; omega
theorem keyN_b {i : Nat} (h : i < 300) : (((UInt8.ofNat (i % 100)).toNat : Nat) : Int) = (i : Int) % 100 := by
  rw [UInt8.toNat_ofNat']; omega
theorem tflat_walk (os : List OpP) (n : Nat) (b : Bool) (hn : n < 65536) (U : Tr) (hU : Low U 50)
    (co : SP 11 [.vs os.length (opC os)] (Z 0)) (aw : SP 12 [] (B true)) (cw : SP 20 [.vs os.length (opC os)] (.vs os.length (opC os)))
    (cp : SP 19 [zT, .vs os.length (opC os)] (trA U)) :
    SP 5 [.vs os.length (opC os), .ex (.int .u16 n), B b] (B true) := by
  have cf := hU.flat (by omega)
  refine S_ Try.func5 (by kernel_rfl) rfl (Nat.le_of_ble_eq_true rfl) ?_
  show avc Try.prog SP _ _ _ _ _ _
  dsimp only [avc, startS, Array.toList, Try.f5]
  repeat' ((try conv => whnf) <;> (first | (refine Hold.mk ?_) | (refine And.intro (fun _ => ?_) (fun h => Bool.noConfusion h)) | (refine And.intro (fun h => Bool.noConfusion h) (fun _ => ?_)) | (refine And.intro (Nat.le_of_ble_eq_true rfl) ?_) | (refine And.intro (fun _ => ?_) (fun h => Bool.noConfusion ((beq_self_eq_true _).symm.trans h))) | (refine And.intro (fun h => Bool.noConfusion ((bne_self_eq_false _).symm.trans h)) (fun _ => ?_)) | (refine And.intro (fun h => Bool.noConfusion ((beq_self_eq_true _).symm.trans h)) (fun _ => ?_)) | (refine And.intro (fun _ => ?_) (fun h => Bool.noConfusion ((bne_self_eq_false _).symm.trans h))) | (refine ⟨_, co, ?_⟩) | (refine ⟨_, cw, ?_⟩) | (refine ⟨_, cp, ?_⟩) | (refine ⟨_, cf, ?_⟩) | (refine ⟨[], [0, 0, 2, 7, 0, 31], len_ok rfl (by kernel_rfl), ?_⟩) | (exact True.intro) | (refine And.intro (show eqT _ _ = true by kernel_rfl) ?_) | (refine And.intro rfl ?_) | (refine And.intro (And.intro (Nat.le_of_ble_eq_true rfl) rfl) ?_) | (refine And.intro (And.intro rfl rfl) ?_) | (refine And.intro (And.intro rfl (And.intro rfl rfl)) ?_) | (exact And.intro rfl (And.intro rfl rfl)) | (exact And.intro rfl rfl) | (refine br_lt ?_ ?_ <;> intro hBr <;> (first | (exfalso; omega) | (exfalso; contradiction) | (exfalso; exact hBr rfl) | skip)) | (refine br_lt_ ?_ ?_ <;> intro hBr <;> (first | (exfalso; omega) | (exfalso; contradiction) | (exfalso; exact hBr rfl) | skip)) | (refine br_le ?_ ?_ <;> intro hBr <;> (first | (exfalso; omega) | (exfalso; contradiction) | (exfalso; exact hBr rfl) | skip)) | (refine br_le_ ?_ ?_ <;> intro hBr <;> (first | (exfalso; omega) | (exfalso; contradiction) | (exfalso; exact hBr rfl) | skip)) | (refine br_eq ?_ ?_ <;> intro hBr <;> (first | (exfalso; omega) | (exfalso; contradiction) | (exfalso; exact hBr rfl) | skip)) | (refine br_eq_ ?_ ?_ <;> intro hBr <;> (first | (exfalso; omega) | (exfalso; contradiction) | (exfalso; exact hBr rfl) | skip)) | (refine br_seq ?_ ?_ <;> intro hBr <;> (first | (exfalso; omega) | (exfalso; contradiction) | (exfalso; exact hBr rfl) | skip)) | (refine br_seq_ ?_ ?_ <;> intro hBr <;> (first | (exfalso; omega) | (exfalso; contradiction) | (exfalso; exact hBr rfl) | skip)) | (refine br_not ?_) | (refine br_not_ ?_) | (refine br_and ?_) | (refine br_and_ ?_) | (refine And.intro (by omega) ?_) | (refine ⟨_, wrap_i64 (by omega), ?_⟩) | (refine ⟨_, wrap_u64 (by omega) (by omega), ?_⟩) | (refine ⟨_, wrap_u8 (by omega) (by omega), ?_⟩) | (refine ⟨_, wrap_u32 (by omega) (by omega), ?_⟩) | (refine ⟨_, wrap_u16 (by omega) (by omega), ?_⟩) | (refine ⟨_, rfl, ?_⟩) | (exact rfl)))
  have hm : IntKind.i64.wrap ((n : Int).tmod 300) = ((n % 300 : Nat) : Int) := by
    rw [Int.tmod_eq_emod_of_nonneg (by omega)]
    exact (wrap_i64 (by omega)).trans (by omega)
  obtain ⟨m, hmd⟩ : ∃ m, m = n % 300 := ⟨_, rfl⟩
  rw [← hmd] at hm
  have hm3 : m < 300 := by omega
  clear cf cp cw co hmd hn
  refine ⟨[10, 9, 2, 8], [], fun vs bl => ∃ (i : Nat) (S : Tr), i ≤ m ∧ Low S (50 + i) ∧ (vs = [Z i, Z m, B b, .ptr 0 0] ∧ bl = [⟨[ndA S], none, false, true⟩]), fun vs bl => match vs with | .ex (.int _ i) :: _ => m - i.toNat | _ => 0, ?_, ?_⟩
  · refine ⟨0, U, by omega, hU, ?_, rfl⟩
    show [Z 0, Z (IntKind.i64.wrap ((n : Int).tmod 300)), B b, AV.ptr 0 0] = _
    rw [hm]; rfl
  clear hm hU
  rintro vs bl ⟨i, S, hi, hS, rfl, rfl⟩
  by_cases hlt : i < m
  · have hmu : m - ((i : Int) + 1).toNat < m - (i : Int).toNat := by omega
    cases b
    · have c := hS.cput (by omega) (keyN i) (Nat.le_refl _)
      have hb : [AV.ex (.int .u8 107), AV.ex (.int .u8 ((i : Int) / 100)), AV.ex (.int .u8 ((i : Int) % 100))] = bytesA (keyN i) := by
        show _ = [AV.ex (.int .u8 107), AV.ex (.int .u8 (((UInt8.ofNat (i / 100)).toNat : Nat) : Int)), AV.ex (.int .u8 (((UInt8.ofNat (i % 100)).toNat : Nat) : Int))]
        rw [keyN_a (by omega), keyN_b (by omega)]
      have hb2 : (3 : Nat) = (keyN i).length := rfl
      have hS2 := hS.put (keyN i) (Nat.le_refl _)
      generalize keyN i = K at c hb hb2 hS2
      clear aw hS
      repeat' ((try conv => whnf) <;> (first | (refine Hold.mk ?_) | (refine And.intro (fun _ => ?_) (fun h => Bool.noConfusion h)) | (refine And.intro (fun h => Bool.noConfusion h) (fun _ => ?_)) | (refine And.intro (Nat.le_of_ble_eq_true rfl) ?_) | (refine And.intro (fun _ => ?_) (fun h => Bool.noConfusion ((beq_self_eq_true _).symm.trans h))) | (refine And.intro (fun h => Bool.noConfusion ((bne_self_eq_false _).symm.trans h)) (fun _ => ?_)) | (refine And.intro (fun h => Bool.noConfusion ((beq_self_eq_true _).symm.trans h)) (fun _ => ?_)) | (refine And.intro (fun _ => ?_) (fun h => Bool.noConfusion ((bne_self_eq_false _).symm.trans h))) | (refine ⟨_, c, ?_⟩) | (refine ⟨true, ?_⟩) | (refine ⟨K, ⟨hb, hb2⟩, ?_⟩) | (refine ⟨[], [0, 0, 2, 7, 0, 31], len_ok rfl (by kernel_rfl), ?_⟩) | (exact True.intro) | (refine And.intro (show eqT _ _ = true by kernel_rfl) ?_) | (refine And.intro rfl ?_) | (refine And.intro (And.intro (Nat.le_of_ble_eq_true rfl) rfl) ?_) | (refine And.intro (And.intro rfl rfl) ?_) | (refine And.intro (And.intro rfl (And.intro rfl rfl)) ?_) | (exact And.intro rfl (And.intro rfl rfl)) | (exact And.intro rfl rfl) | (refine br_lt ?_ ?_ <;> intro hBr <;> (first | (exfalso; omega) | (exfalso; contradiction) | (exfalso; exact hBr rfl) | skip)) | (refine br_lt_ ?_ ?_ <;> intro hBr <;> (first | (exfalso; omega) | (exfalso; contradiction) | (exfalso; exact hBr rfl) | skip)) | (refine br_le ?_ ?_ <;> intro hBr <;> (first | (exfalso; omega) | (exfalso; contradiction) | (exfalso; exact hBr rfl) | skip)) | (refine br_le_ ?_ ?_ <;> intro hBr <;> (first | (exfalso; omega) | (exfalso; contradiction) | (exfalso; exact hBr rfl) | skip)) | (refine br_eq ?_ ?_ <;> intro hBr <;> (first | (exfalso; omega) | (exfalso; contradiction) | (exfalso; exact hBr rfl) | skip)) | (refine br_eq_ ?_ ?_ <;> intro hBr <;> (first | (exfalso; omega) | (exfalso; contradiction) | (exfalso; exact hBr rfl) | skip)) | (refine br_seq ?_ ?_ <;> intro hBr <;> (first | (exfalso; omega) | (exfalso; contradiction) | (exfalso; exact hBr rfl) | skip)) | (refine br_seq_ ?_ ?_ <;> intro hBr <;> (first | (exfalso; omega) | (exfalso; contradiction) | (exfalso; exact hBr rfl) | skip)) | (refine br_not ?_) | (refine br_not_ ?_) | (refine br_and ?_) | (refine br_and_ ?_) | (refine And.intro (by omega) ?_) | (refine ⟨_, wrap_i64 (by omega), ?_⟩) | (refine ⟨_, wrap_u64 (by omega) (by omega), ?_⟩) | (refine ⟨_, wrap_u8 (by omega) (by omega), ?_⟩) | (refine ⟨_, wrap_u32 (by omega) (by omega), ?_⟩) | (refine ⟨_, wrap_u16 (by omega) (by omega), ?_⟩) | (refine ⟨_, rfl, ?_⟩) | (exact rfl)))
      exact ⟨⟨i + 1, _, by omega, hS2, rfl, rfl⟩, hmu⟩
    · obtain ⟨q, hq⟩ : ∃ q, q = m - 1 - i := ⟨_, rfl⟩
      have hq2 : (m : Int) - 1 - (i : Int) = (q : Int) := by omega
      have c := hS.cput (by omega) (keyN q) (Nat.le_refl _)
      have hb : [AV.ex (.int .u8 107), AV.ex (.int .u8 (((m : Int) - 1 - (i : Int)) / 100)), AV.ex (.int .u8 (((m : Int) - 1 - (i : Int)) % 100))] = bytesA (keyN q) := by
        show _ = [AV.ex (.int .u8 107), AV.ex (.int .u8 (((UInt8.ofNat (q / 100)).toNat : Nat) : Int)), AV.ex (.int .u8 (((UInt8.ofNat (q % 100)).toNat : Nat) : Int))]
        rw [keyN_a (by omega), keyN_b (by omega), hq2]
      have hb2 : (3 : Nat) = (keyN q).length := rfl
      have hS2 := hS.put (keyN q) (Nat.le_refl _)
      generalize keyN q = K at c hb hb2 hS2
      clear aw hS
      repeat' ((try conv => whnf) <;> (first | (refine Hold.mk ?_) | (refine And.intro (fun _ => ?_) (fun h => Bool.noConfusion h)) | (refine And.intro (fun h => Bool.noConfusion h) (fun _ => ?_)) | (refine And.intro (Nat.le_of_ble_eq_true rfl) ?_) | (refine And.intro (fun _ => ?_) (fun h => Bool.noConfusion ((beq_self_eq_true _).symm.trans h))) | (refine And.intro (fun h => Bool.noConfusion ((bne_self_eq_false _).symm.trans h)) (fun _ => ?_)) | (refine And.intro (fun h => Bool.noConfusion ((beq_self_eq_true _).symm.trans h)) (fun _ => ?_)) | (refine And.intro (fun _ => ?_) (fun h => Bool.noConfusion ((bne_self_eq_false _).symm.trans h))) | (refine ⟨_, c, ?_⟩) | (refine ⟨true, ?_⟩) | (refine ⟨K, ⟨hb, hb2⟩, ?_⟩) | (refine ⟨[], [0, 0, 2, 7, 0, 31], len_ok rfl (by kernel_rfl), ?_⟩) | (exact True.intro) | (refine And.intro (show eqT _ _ = true by kernel_rfl) ?_) | (refine And.intro rfl ?_) | (refine And.intro (And.intro (Nat.le_of_ble_eq_true rfl) rfl) ?_) | (refine And.intro (And.intro rfl rfl) ?_) | (refine And.intro (And.intro rfl (And.intro rfl rfl)) ?_) | (exact And.intro rfl (And.intro rfl rfl)) | (exact And.intro rfl rfl) | (refine br_lt ?_ ?_ <;> intro hBr <;> (first | (exfalso; omega) | (exfalso; contradiction) | (exfalso; exact hBr rfl) | skip)) | (refine br_lt_ ?_ ?_ <;> intro hBr <;> (first | (exfalso; omega) | (exfalso; contradiction) | (exfalso; exact hBr rfl) | skip)) | (refine br_le ?_ ?_ <;> intro hBr <;> (first | (exfalso; omega) | (exfalso; contradiction) | (exfalso; exact hBr rfl) | skip)) | (refine br_le_ ?_ ?_ <;> intro hBr <;> (first | (exfalso; omega) | (exfalso; contradiction) | (exfalso; exact hBr rfl) | skip)) | (refine br_eq ?_ ?_ <;> intro hBr <;> (first | (exfalso; omega) | (exfalso; contradiction) | (exfalso; exact hBr rfl) | skip)) | (refine br_eq_ ?_ ?_ <;> intro hBr <;> (first | (exfalso; omega) | (exfalso; contradiction) | (exfalso; exact hBr rfl) | skip)) | (refine br_seq ?_ ?_ <;> intro hBr <;> (first | (exfalso; omega) | (exfalso; contradiction) | (exfalso; exact hBr rfl) | skip)) | (refine br_seq_ ?_ ?_ <;> intro hBr <;> (first | (exfalso; omega) | (exfalso; contradiction) | (exfalso; exact hBr rfl) | skip)) | (refine br_not ?_) | (refine br_not_ ?_) | (refine br_and ?_) | (refine br_and_ ?_) | (refine And.intro (by omega) ?_) | (refine ⟨_, wrap_i64 (by omega), ?_⟩) | (refine ⟨_, wrap_u64 (by omega) (by omega), ?_⟩) | (refine ⟨_, wrap_u8 (by omega) (by omega), ?_⟩) | (refine ⟨_, wrap_u32 (by omega) (by omega), ?_⟩) | (refine ⟨_, wrap_u16 (by omega) (by omega), ?_⟩) | (refine ⟨_, rfl, ?_⟩) | (exact rfl)))
      exact ⟨⟨i + 1, _, by omega, hS2, rfl, rfl⟩, hmu⟩
  obtain rfl : i = m := by omega
  have cf := hS.flat (by omega)
  repeat' ((try conv => whnf) <;> (first | (refine Hold.mk ?_) | (refine And.intro (fun _ => ?_) (fun h => Bool.noConfusion h)) | (refine And.intro (fun h => Bool.noConfusion h) (fun _ => ?_)) | (refine And.intro (Nat.le_of_ble_eq_true rfl) ?_) | (refine And.intro (fun _ => ?_) (fun h => Bool.noConfusion ((beq_self_eq_true _).symm.trans h))) | (refine And.intro (fun h => Bool.noConfusion ((bne_self_eq_false _).symm.trans h)) (fun _ => ?_)) | (refine And.intro (fun h => Bool.noConfusion ((beq_self_eq_true _).symm.trans h)) (fun _ => ?_)) | (refine And.intro (fun _ => ?_) (fun h => Bool.noConfusion ((bne_self_eq_false _).symm.trans h))) | (refine ⟨_, cf, ?_⟩) | (refine ⟨[], [0, 0, 2, 7, 0, 31], len_ok rfl (by kernel_rfl), ?_⟩) | (exact True.intro) | (refine And.intro (show eqT _ _ = true by kernel_rfl) ?_) | (refine And.intro rfl ?_) | (refine And.intro (And.intro (Nat.le_of_ble_eq_true rfl) rfl) ?_) | (refine And.intro (And.intro rfl rfl) ?_) | (refine And.intro (And.intro rfl (And.intro rfl rfl)) ?_) | (exact And.intro rfl (And.intro rfl rfl)) | (exact And.intro rfl rfl) | (refine br_lt ?_ ?_ <;> intro hBr <;> (first | (exfalso; omega) | (exfalso; contradiction) | (exfalso; exact hBr rfl) | skip)) | (refine br_lt_ ?_ ?_ <;> intro hBr <;> (first | (exfalso; omega) | (exfalso; contradiction) | (exfalso; exact hBr rfl) | skip)) | (refine br_le ?_ ?_ <;> intro hBr <;> (first | (exfalso; omega) | (exfalso; contradiction) | (exfalso; exact hBr rfl) | skip)) | (refine br_le_ ?_ ?_ <;> intro hBr <;> (first | (exfalso; omega) | (exfalso; contradiction) | (exfalso; exact hBr rfl) | skip)) | (refine br_eq ?_ ?_ <;> intro hBr <;> (first | (exfalso; omega) | (exfalso; contradiction) | (exfalso; exact hBr rfl) | skip)) | (refine br_eq_ ?_ ?_ <;> intro hBr <;> (first | (exfalso; omega) | (exfalso; contradiction) | (exfalso; exact hBr rfl) | skip)) | (refine br_seq ?_ ?_ <;> intro hBr <;> (first | (exfalso; omega) | (exfalso; contradiction) | (exfalso; exact hBr rfl) | skip)) | (refine br_seq_ ?_ ?_ <;> intro hBr <;> (first | (exfalso; omega) | (exfalso; contradiction) | (exfalso; exact hBr rfl) | skip)) | (refine br_not ?_) | (refine br_not_ ?_) | (refine br_and ?_) | (refine br_and_ ?_) | (refine And.intro (by omega) ?_) | (refine ⟨_, wrap_i64 (by omega), ?_⟩) | (refine ⟨_, wrap_u64 (by omega) (by omega), ?_⟩) | (refine ⟨_, wrap_u8 (by omega) (by omega), ?_⟩) | (refine ⟨_, wrap_u32 (by omega) (by omega), ?_⟩) | (refine ⟨_, wrap_u16 (by omega) (by omega), ?_⟩) | (refine ⟨_, rfl, ?_⟩) | (exact rfl)))
  refine ⟨[12, 9, 8], [], fun vs bl => ∃ (j : Nat) (S : Tr), j ≤ i + 1 ∧ Low S (50 + i) ∧ (vs = [Z j, Z i, .ptr 0 0] ∧ bl = [⟨[ndA S], none, false, true⟩]), fun vs bl => match vs with | .ex (.int _ j) :: _ => i + 2 - j.toNat | _ => 0, ?_, ?_⟩
  · exact ⟨0, S, by omega, hS, rfl, rfl⟩
  clear cf hS
  rintro vs bl ⟨j, S, hj, hS, rfl, rfl⟩
  by_cases hlt : j < i
  · have hmu : i + 2 - ((j : Int) + 2).toNat < i + 2 - (j : Int).toNat := by omega
    have c := hS.cdel (by omega) (keyN j)
    have hb : [AV.ex (.int .u8 107), AV.ex (.int .u8 ((j : Int) / 100)), AV.ex (.int .u8 ((j : Int) % 100))] = bytesA (keyN j) := by
      show _ = [AV.ex (.int .u8 107), AV.ex (.int .u8 (((UInt8.ofNat (j / 100)).toNat : Nat) : Int)), AV.ex (.int .u8 (((UInt8.ofNat (j % 100)).toNat : Nat) : Int))]
      rw [keyN_a (by omega), keyN_b (by omega)]
    have hb2 : (3 : Nat) = (keyN j).length := rfl
    have hS2 := hS.del (keyN j)
    generalize keyN j = K at c hb hb2 hS2
    clear aw hS
    repeat' ((try conv => whnf) <;> (first | (refine Hold.mk ?_) | (refine And.intro (fun _ => ?_) (fun h => Bool.noConfusion h)) | (refine And.intro (fun h => Bool.noConfusion h) (fun _ => ?_)) | (refine And.intro (Nat.le_of_ble_eq_true rfl) ?_) | (refine And.intro (fun _ => ?_) (fun h => Bool.noConfusion ((beq_self_eq_true _).symm.trans h))) | (refine And.intro (fun h => Bool.noConfusion ((bne_self_eq_false _).symm.trans h)) (fun _ => ?_)) | (refine And.intro (fun h => Bool.noConfusion ((beq_self_eq_true _).symm.trans h)) (fun _ => ?_)) | (refine And.intro (fun _ => ?_) (fun h => Bool.noConfusion ((bne_self_eq_false _).symm.trans h))) | (refine ⟨_, c, ?_⟩) | (refine ⟨true, ?_⟩) | (refine ⟨K, ⟨hb, hb2⟩, ?_⟩) | (refine ⟨[], [0, 0, 2, 7, 0, 31], len_ok rfl (by kernel_rfl), ?_⟩) | (exact True.intro) | (refine And.intro (show eqT _ _ = true by kernel_rfl) ?_) | (refine And.intro rfl ?_) | (refine And.intro (And.intro (Nat.le_of_ble_eq_true rfl) rfl) ?_) | (refine And.intro (And.intro rfl rfl) ?_) | (refine And.intro (And.intro rfl (And.intro rfl rfl)) ?_) | (exact And.intro rfl (And.intro rfl rfl)) | (exact And.intro rfl rfl) | (refine br_lt ?_ ?_ <;> intro hBr <;> (first | (exfalso; omega) | (exfalso; contradiction) | (exfalso; exact hBr rfl) | skip)) | (refine br_lt_ ?_ ?_ <;> intro hBr <;> (first | (exfalso; omega) | (exfalso; contradiction) | (exfalso; exact hBr rfl) | skip)) | (refine br_le ?_ ?_ <;> intro hBr <;> (first | (exfalso; omega) | (exfalso; contradiction) | (exfalso; exact hBr rfl) | skip)) | (refine br_le_ ?_ ?_ <;> intro hBr <;> (first | (exfalso; omega) | (exfalso; contradiction) | (exfalso; exact hBr rfl) | skip)) | (refine br_eq ?_ ?_ <;> intro hBr <;> (first | (exfalso; omega) | (exfalso; contradiction) | (exfalso; exact hBr rfl) | skip)) | (refine br_eq_ ?_ ?_ <;> intro hBr <;> (first | (exfalso; omega) | (exfalso; contradiction) | (exfalso; exact hBr rfl) | skip)) | (refine br_seq ?_ ?_ <;> intro hBr <;> (first | (exfalso; omega) | (exfalso; contradiction) | (exfalso; exact hBr rfl) | skip)) | (refine br_seq_ ?_ ?_ <;> intro hBr <;> (first | (exfalso; omega) | (exfalso; contradiction) | (exfalso; exact hBr rfl) | skip)) | (refine br_not ?_) | (refine br_not_ ?_) | (refine br_and ?_) | (refine br_and_ ?_) | (refine And.intro (by omega) ?_) | (refine ⟨_, wrap_i64 (by omega), ?_⟩) | (refine ⟨_, wrap_u64 (by omega) (by omega), ?_⟩) | (refine ⟨_, wrap_u8 (by omega) (by omega), ?_⟩) | (refine ⟨_, wrap_u32 (by omega) (by omega), ?_⟩) | (refine ⟨_, wrap_u16 (by omega) (by omega), ?_⟩) | (refine ⟨_, rfl, ?_⟩) | (exact rfl)))
    exact ⟨⟨j + 2, _, by omega, hS2, rfl, rfl⟩, hmu⟩
  · have cf := hS.flat (by omega)
    repeat' ((try conv => whnf) <;> (first | (refine Hold.mk ?_) | (refine And.intro (fun _ => ?_) (fun h => Bool.noConfusion h)) | (refine And.intro (fun h => Bool.noConfusion h) (fun _ => ?_)) | (refine And.intro (Nat.le_of_ble_eq_true rfl) ?_) | (refine And.intro (fun _ => ?_) (fun h => Bool.noConfusion ((beq_self_eq_true _).symm.trans h))) | (refine And.intro (fun h => Bool.noConfusion ((bne_self_eq_false _).symm.trans h)) (fun _ => ?_)) | (refine And.intro (fun h => Bool.noConfusion ((beq_self_eq_true _).symm.trans h)) (fun _ => ?_)) | (refine And.intro (fun _ => ?_) (fun h => Bool.noConfusion ((bne_self_eq_false _).symm.trans h))) | (refine ⟨_, cf, ?_⟩) | (refine ⟨_, aw, ?_⟩) | (refine ⟨[], [0, 0, 2, 7, 0, 31], len_ok rfl (by kernel_rfl), ?_⟩) | (exact True.intro) | (refine And.intro (show eqT _ _ = true by kernel_rfl) ?_) | (refine And.intro rfl ?_) | (refine And.intro (And.intro (Nat.le_of_ble_eq_true rfl) rfl) ?_) | (refine And.intro (And.intro rfl rfl) ?_) | (refine And.intro (And.intro rfl (And.intro rfl rfl)) ?_) | (exact And.intro rfl (And.intro rfl rfl)) | (exact And.intro rfl rfl) | (refine br_lt ?_ ?_ <;> intro hBr <;> (first | (exfalso; omega) | (exfalso; contradiction) | (exfalso; exact hBr rfl) | skip)) | (refine br_lt_ ?_ ?_ <;> intro hBr <;> (first | (exfalso; omega) | (exfalso; contradiction) | (exfalso; exact hBr rfl) | skip)) | (refine br_le ?_ ?_ <;> intro hBr <;> (first | (exfalso; omega) | (exfalso; contradiction) | (exfalso; exact hBr rfl) | skip)) | (refine br_le_ ?_ ?_ <;> intro hBr <;> (first | (exfalso; omega) | (exfalso; contradiction) | (exfalso; exact hBr rfl) | skip)) | (refine br_eq ?_ ?_ <;> intro hBr <;> (first | (exfalso; omega) | (exfalso; contradiction) | (exfalso; exact hBr rfl) | skip)) | (refine br_eq_ ?_ ?_ <;> intro hBr <;> (first | (exfalso; omega) | (exfalso; contradiction) | (exfalso; exact hBr rfl) | skip)) | (refine br_seq ?_ ?_ <;> intro hBr <;> (first | (exfalso; omega) | (exfalso; contradiction) | (exfalso; exact hBr rfl) | skip)) | (refine br_seq_ ?_ ?_ <;> intro hBr <;> (first | (exfalso; omega) | (exfalso; contradiction) | (exfalso; exact hBr rfl) | skip)) | (refine br_not ?_) | (refine br_not_ ?_) | (refine br_and ?_) | (refine br_and_ ?_) | (refine And.intro (by omega) ?_) | (refine ⟨_, wrap_i64 (by omega), ?_⟩) | (refine ⟨_, wrap_u64 (by omega) (by omega), ?_⟩) | (refine ⟨_, wrap_u8 (by omega) (by omega), ?_⟩) | (refine ⟨_, wrap_u32 (by omega) (by omega), ?_⟩) | (refine ⟨_, wrap_u16 (by omega) (by omega), ?_⟩) | (refine ⟨_, rfl, ?_⟩) | (exact rfl)))
theorem tflat_ok (os : List OpP) (hl : os.length ≤ 9223372036854775807) (n : Nat) (hn : n < 65536) (b : Bool) : SP 5 [.vs os.length (opC os), .ex (.int .u16 n), B b] (B true) := by
  by_cases h : Over13 os
  · exact tflat_over os n b (over13_yes hl h) awake14_ok
  have m := made_of h
  exact tflat_walk os n b hn _ ⟨m.good, by rw [m.list]; exact m.len, by rw [m.list]; have := m.bytes; omega⟩ (over13_no h) awake14_ok m.own m.tree
theorem treeFlat_walk (rows : List (List Value)) (k : Nat) (F : Nat → Nat → Prop) (v : Value) (n : Nat) (b : Bool) (w : World) (hq : rows.length = k) (hz : k ≤ 9223372036854775807)
    (hok : ∀ r ∈ rows, CellsOk [.int .u8, .str, .str] r) (hlo : ∀ g j, F g j → g < w.heap.size) (hrep : ∀ F' : Nat → Nat → Prop, (∀ g j, F g j → F' g j) → Rep w p0 c0 F' noD (.vs k (rows.flatten.map .ex)) v) (hn : n < 65536) :
    Calls Try.prog 5 #[v, .int .u16 n, .bool b] w fun e w' => e = .returned (.bool true) ∧ Below w.heap.size w w' := by
  obtain ⟨os, e1, e2⟩ := rows_O hok
  have hr := hrep F fun _ _ h => h
  rw [e2, ← hq, ← e1] at hr
  refine calls_at (tflat_ok os (by omega) n hn b) w F hlo _ rfl fun j hj => ?_
  match j, hj with
  | 0, _ => exact hr
  | 1, _ => exact .ex _ _
  | 2, _ => exact .ex _ _
end Go.Proofs.Ytdicpbecdhaphaa.Av
