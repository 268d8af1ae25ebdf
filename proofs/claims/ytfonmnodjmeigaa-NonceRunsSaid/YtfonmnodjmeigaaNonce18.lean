/- nonce: numbers are in order as their counts are. No conditions. -/
import Derived.Test.YtfonmnodjmeigaaNonce15
namespace Go.Proofs.Ytfonmnodjmeigaa.Av
set_option maxHeartbeats 1000000
open Go Go.RowKit
set_option linter.unusedVariables false
set_option linter.unusedSimpArgs false
set_option maxRecDepth 100000

theorem less_tell : ∀ {a b : List UInt8}, a.length = b.length → Op.bytesLess a b = decide (Quill.tell a < Quill.tell b)
  | [], [], _ => by simp [Op.bytesLess]
  | [], _ :: _, h => by simp at h
  | _ :: _, [], h => by simp at h
  | x :: a, y :: b, h => by
    have hl : a.length = b.length := by simpa using h
    have ha := Quill.tell_lt a
    have hb := Quill.tell_lt b
    rw [hl] at ha
    rw [Op.bytesLess, less_tell hl, Quill.tell_cons, Quill.tell_cons, hl]
    generalize 256 ^ b.length = z at *
    rcases Nat.lt_trichotomy x.toNat y.toNat with h1 | h1 | h1
    · have e1 : x < y := h1
      have e2 : x.toNat * z + Quill.tell a < y.toNat * z + Quill.tell b := by
        have : (x.toNat + 1) * z ≤ y.toNat * z := Nat.mul_le_mul_right _ h1
        rw [Nat.add_mul] at this; omega
      simp [e1, e2]
    · have e0 := UInt8.toNat_inj.1 h1
      subst e0
      have e1 : ¬ x < x := Nat.lt_irrefl x.toNat
      simp [e1]
    · have e1 : ¬ x < y := fun h2 : x.toNat < y.toNat => by omega
      have e3 : ¬ x = y := fun h2 => by subst h2; omega
      have e2 : ¬ x.toNat * z + Quill.tell a < y.toNat * z + Quill.tell b := by
        have : (y.toNat + 1) * z ≤ x.toNat * z := Nat.mul_le_mul_right _ h1
        rw [Nat.add_mul] at this; omega
      have e4 : (x == y) = false := by simp [e3]
      have e5 : decide (x < y) = false := decide_eq_false e1
      rw [e4, e5, decide_eq_false e2]; rfl
theorem tell_num12 {e n : Nat} (he : e < 281474976710656) (hn : n < 281474976710656) : Quill.tell (num12 e n) = e * 281474976710656 + n := by
  rw [num12, Quill.tell_append, Quill.tell_numB, Quill.tell_numB, Quill.numB_length]
  rw [show (256 : Nat) ^ 6 = 281474976710656 from rfl, Nat.mod_eq_of_lt he, Nat.mod_eq_of_lt hn]
theorem num12_less {e n c d : Nat} (he : e < 281474976710656) (hn : n < 281474976710656) (hc : c < 281474976710656) (hd : d < 281474976710656) :
    Op.bytesLess (bs (num12 e n)).toList (bs (num12 c d)).toList = decide (e < c ∨ (e = c ∧ n < d)) := by
  rw [bsl_, bsl_, less_tell (by rw [num12_length, num12_length]), tell_num12 he hn, tell_num12 hc hd]
  by_cases h : e < c ∨ (e = c ∧ n < d)
  · rw [decide_eq_true h, decide_eq_true (by omega)]
  · rw [decide_eq_false h, decide_eq_false (by omega)]
theorem num12_same {e n c d : Nat} (he : e < 281474976710656) (hn : n < 281474976710656) (hc : c < 281474976710656) (hd : d < 281474976710656) :
    ((bs (num12 e n)).toList == (bs (num12 c d)).toList) = (((e : Int) == c) && (((n : Int) == d) && true)) := by
  rw [bsl_, bsl_]
  by_cases h : e = c ∧ n = d
  · obtain ⟨rfl, rfl⟩ := h
    simp
  · have h1 : num12 e n ≠ num12 c d := by
      intro h2
      have := congrArg Quill.tell h2
      rw [tell_num12 he hn, tell_num12 hc hd] at this
      omega
    have h3 : ¬ ((e : Int) = c ∧ (n : Int) = d) := by omega
    rw [show (num12 e n == num12 c d) = false by simp [h1]]
    symm
    simp
    omega
theorem never_no1 (e n c d : Nat) (c1 c2 : Int) (t2 : List UInt8) (hc : c1 ≠ 0) (h2 : c2 = 0 ∨ t2 = []) (ht1 : SP 34 [cnt e n] (.tup [T [], Z c1])) (ht2 : SP 34 [cnt c d] (.tup [T t2, Z c2])) :
    SP 10 [cnt e n, cnt c d] (B true) := by
  rcases h2 with rfl | rfl
  · refine S_ Try.func10 (by kernel_rfl) rfl (Nat.le_of_ble_eq_true rfl) ?_ -- G
    repeat' ((try conv => whnf) <;> (first | (refine Hold.mk ?_) | (refine And.intro (fun _ => ?_) (fun h => Bool.noConfusion h)) | (refine And.intro (fun h => Bool.noConfusion h) (fun _ => ?_)) | (refine And.intro (Nat.le_of_ble_eq_true rfl) ?_) | (refine And.intro (fun _ => ?_) (fun h => Bool.noConfusion ((beq_self_eq_true _).symm.trans h))) | (refine And.intro (fun h => Bool.noConfusion ((bne_self_eq_false _).symm.trans h)) (fun _ => ?_)) | (refine And.intro (fun h => Bool.noConfusion ((beq_self_eq_true _).symm.trans h)) (fun _ => ?_)) | (refine And.intro (fun _ => ?_) (fun h => Bool.noConfusion ((bne_self_eq_false _).symm.trans h))) | (refine ⟨_, ht1, ?_⟩) | (refine ⟨_, ht2, ?_⟩) | (refine ⟨_, awake_ok, ?_⟩) | (refine ⟨[], [0, 0, 0, 0, 13, 31], len_ok rfl (by kernel_rfl), ?_⟩) | (exact True.intro) | (refine And.intro (show eqT _ _ = true by kernel_rfl) ?_) | (refine And.intro rfl ?_) | (refine And.intro (And.intro (Nat.le_of_ble_eq_true rfl) rfl) ?_) | (refine And.intro (And.intro rfl (And.intro rfl rfl)) ?_) | (exact And.intro rfl (And.intro rfl rfl)) | (exact And.intro rfl rfl) | (refine br_lt ?_ ?_ <;> intro hBr <;> (first | (exfalso; omega) | (exfalso; contradiction) | (exfalso; exact hBr rfl) | skip)) | (refine br_lt_ ?_ ?_ <;> intro hBr <;> (first | (exfalso; omega) | (exfalso; contradiction) | (exfalso; exact hBr rfl) | skip)) | (refine br_le ?_ ?_ <;> intro hBr <;> (first | (exfalso; omega) | (exfalso; contradiction) | (exfalso; exact hBr rfl) | skip)) | (refine br_le_ ?_ ?_ <;> intro hBr <;> (first | (exfalso; omega) | (exfalso; contradiction) | (exfalso; exact hBr rfl) | skip)) | (refine br_eq ?_ ?_ <;> intro hBr <;> (first | (exfalso; omega) | (exfalso; contradiction) | (exfalso; exact hBr rfl) | skip)) | (refine br_eq_ ?_ ?_ <;> intro hBr <;> (first | (exfalso; omega) | (exfalso; contradiction) | (exfalso; exact hBr rfl) | skip)) | (refine br_seq ?_ ?_ <;> intro hBr <;> (first | (exfalso; omega) | (exfalso; contradiction) | (exfalso; exact hBr rfl) | skip)) | (refine br_seq_ ?_ ?_ <;> intro hBr <;> (first | (exfalso; omega) | (exfalso; contradiction) | (exfalso; exact hBr rfl) | skip)) | (refine br_not ?_) | (refine br_not_ ?_) | (refine br_and ?_) | (refine br_and_ ?_) | (refine And.intro (by omega) ?_) | (refine ⟨_, wrap_i64 (by omega), ?_⟩) | (refine ⟨_, wrap_u64 (by omega) (by omega), ?_⟩) | (refine ⟨_, wrap_u8 (by omega) (by omega), ?_⟩) | (refine ⟨_, wrap_u32 (by omega) (by omega), ?_⟩) | (refine ⟨_, wrap_u16 (by omega) (by omega), ?_⟩) | (refine ⟨_, rfl, ?_⟩) | (exact rfl)))
  · refine S_ Try.func10 (by kernel_rfl) rfl (Nat.le_of_ble_eq_true rfl) ?_ -- G
    repeat' ((try conv => whnf) <;> (first | (refine Hold.mk ?_) | (refine And.intro (fun _ => ?_) (fun h => Bool.noConfusion h)) | (refine And.intro (fun h => Bool.noConfusion h) (fun _ => ?_)) | (refine And.intro (Nat.le_of_ble_eq_true rfl) ?_) | (refine And.intro (fun _ => ?_) (fun h => Bool.noConfusion ((beq_self_eq_true _).symm.trans h))) | (refine And.intro (fun h => Bool.noConfusion ((bne_self_eq_false _).symm.trans h)) (fun _ => ?_)) | (refine And.intro (fun h => Bool.noConfusion ((beq_self_eq_true _).symm.trans h)) (fun _ => ?_)) | (refine And.intro (fun _ => ?_) (fun h => Bool.noConfusion ((bne_self_eq_false _).symm.trans h))) | (refine ⟨_, ht1, ?_⟩) | (refine ⟨_, ht2, ?_⟩) | (refine ⟨_, awake_ok, ?_⟩) | (refine ⟨[], [0, 0, 0, 0, 13, 31], len_ok rfl (by kernel_rfl), ?_⟩) | (exact True.intro) | (refine And.intro (show eqT _ _ = true by kernel_rfl) ?_) | (refine And.intro rfl ?_) | (refine And.intro (And.intro (Nat.le_of_ble_eq_true rfl) rfl) ?_) | (refine And.intro (And.intro rfl (And.intro rfl rfl)) ?_) | (exact And.intro rfl (And.intro rfl rfl)) | (exact And.intro rfl rfl) | (refine br_lt ?_ ?_ <;> intro hBr <;> (first | (exfalso; omega) | (exfalso; contradiction) | (exfalso; exact hBr rfl) | skip)) | (refine br_lt_ ?_ ?_ <;> intro hBr <;> (first | (exfalso; omega) | (exfalso; contradiction) | (exfalso; exact hBr rfl) | skip)) | (refine br_le ?_ ?_ <;> intro hBr <;> (first | (exfalso; omega) | (exfalso; contradiction) | (exfalso; exact hBr rfl) | skip)) | (refine br_le_ ?_ ?_ <;> intro hBr <;> (first | (exfalso; omega) | (exfalso; contradiction) | (exfalso; exact hBr rfl) | skip)) | (refine br_eq ?_ ?_ <;> intro hBr <;> (first | (exfalso; omega) | (exfalso; contradiction) | (exfalso; exact hBr rfl) | skip)) | (refine br_eq_ ?_ ?_ <;> intro hBr <;> (first | (exfalso; omega) | (exfalso; contradiction) | (exfalso; exact hBr rfl) | skip)) | (refine br_seq ?_ ?_ <;> intro hBr <;> (first | (exfalso; omega) | (exfalso; contradiction) | (exfalso; exact hBr rfl) | skip)) | (refine br_seq_ ?_ ?_ <;> intro hBr <;> (first | (exfalso; omega) | (exfalso; contradiction) | (exfalso; exact hBr rfl) | skip)) | (refine br_not ?_) | (refine br_not_ ?_) | (refine br_and ?_) | (refine br_and_ ?_) | (refine And.intro (by omega) ?_) | (refine ⟨_, wrap_i64 (by omega), ?_⟩) | (refine ⟨_, wrap_u64 (by omega) (by omega), ?_⟩) | (refine ⟨_, wrap_u8 (by omega) (by omega), ?_⟩) | (refine ⟨_, wrap_u32 (by omega) (by omega), ?_⟩) | (refine ⟨_, wrap_u16 (by omega) (by omega), ?_⟩) | (refine ⟨_, rfl, ?_⟩) | (exact rfl)))
theorem never_no2 (e n c d : Nat) (c2 : Int) (t1 : List UInt8) (hc : c2 ≠ 0) (ht1 : SP 34 [cnt e n] (.tup [T t1, Z 0])) (ht2 : SP 34 [cnt c d] (.tup [T [], Z c2])) :
    SP 10 [cnt e n, cnt c d] (B true) := by
  refine S_ Try.func10 (by kernel_rfl) rfl (Nat.le_of_ble_eq_true rfl) ?_
  show avc Try.prog SP _ _ _ _ _ _
  dsimp only [avc, startS, Array.toList, Try.f10]
  repeat' ((try conv => whnf) <;> (first | (refine Hold.mk ?_) | (refine And.intro (fun _ => ?_) (fun h => Bool.noConfusion h)) | (refine And.intro (fun h => Bool.noConfusion h) (fun _ => ?_)) | (refine And.intro (Nat.le_of_ble_eq_true rfl) ?_) | (refine And.intro (fun _ => ?_) (fun h => Bool.noConfusion ((beq_self_eq_true _).symm.trans h))) | (refine And.intro (fun h => Bool.noConfusion ((bne_self_eq_false _).symm.trans h)) (fun _ => ?_)) | (refine And.intro (fun h => Bool.noConfusion ((beq_self_eq_true _).symm.trans h)) (fun _ => ?_)) | (refine And.intro (fun _ => ?_) (fun h => Bool.noConfusion ((bne_self_eq_false _).symm.trans h))) | (refine ⟨_, ht1, ?_⟩) | (refine ⟨_, ht2, ?_⟩) | (refine ⟨_, awake_ok, ?_⟩) | (refine ⟨[], [0, 0, 0, 0, 13, 31], len_ok rfl (by kernel_rfl), ?_⟩) | (exact True.intro) | (refine And.intro (show eqT _ _ = true by kernel_rfl) ?_) | (refine And.intro rfl ?_) | (refine And.intro (And.intro (Nat.le_of_ble_eq_true rfl) rfl) ?_) | (refine And.intro (And.intro rfl (And.intro rfl rfl)) ?_) | (exact And.intro rfl (And.intro rfl rfl)) | (exact And.intro rfl rfl) | (refine br_lt ?_ ?_ <;> intro hBr <;> (first | (exfalso; omega) | (exfalso; contradiction) | (exfalso; exact hBr rfl) | skip)) | (refine br_lt_ ?_ ?_ <;> intro hBr <;> (first | (exfalso; omega) | (exfalso; contradiction) | (exfalso; exact hBr rfl) | skip)) | (refine br_le ?_ ?_ <;> intro hBr <;> (first | (exfalso; omega) | (exfalso; contradiction) | (exfalso; exact hBr rfl) | skip)) | (refine br_le_ ?_ ?_ <;> intro hBr <;> (first | (exfalso; omega) | (exfalso; contradiction) | (exfalso; exact hBr rfl) | skip)) | (refine br_eq ?_ ?_ <;> intro hBr <;> (first | (exfalso; omega) | (exfalso; contradiction) | (exfalso; exact hBr rfl) | skip)) | (refine br_eq_ ?_ ?_ <;> intro hBr <;> (first | (exfalso; omega) | (exfalso; contradiction) | (exfalso; exact hBr rfl) | skip)) | (refine br_seq ?_ ?_ <;> intro hBr <;> (first | (exfalso; omega) | (exfalso; contradiction) | (exfalso; exact hBr rfl) | skip)) | (refine br_seq_ ?_ ?_ <;> intro hBr <;> (first | (exfalso; omega) | (exfalso; contradiction) | (exfalso; exact hBr rfl) | skip)) | (refine br_not ?_) | (refine br_not_ ?_) | (refine br_and ?_) | (refine br_and_ ?_) | (refine And.intro (by omega) ?_) | (refine ⟨_, wrap_i64 (by omega), ?_⟩) | (refine ⟨_, wrap_u64 (by omega) (by omega), ?_⟩) | (refine ⟨_, wrap_u8 (by omega) (by omega), ?_⟩) | (refine ⟨_, wrap_u32 (by omega) (by omega), ?_⟩) | (refine ⟨_, wrap_u16 (by omega) (by omega), ?_⟩) | (refine ⟨_, rfl, ?_⟩) | (exact rfl)))
theorem never_yes (e n c d : Nat) (s t : List UInt8) (l : Bool) (ht1 : SP 34 [cnt e n] (.tup [T s, Z 0])) (ht2 : SP 34 [cnt c d] (.tup [T t, Z 0]))
    (hp : SP 36 [T s] (.tup [cnt e n, Z 0])) (hl : SP 41 [cnt e n, cnt c d] (B l)) (hs : ((bs s).toList == (bs t).toList) = (((e : Int) == c) && (((n : Int) == d) && true)))
    (hb : Op.bytesLess (bs s).toList (bs t).toList = l) : SP 10 [cnt e n, cnt c d] (B true) := by
  refine S_ Try.func10 (by kernel_rfl) rfl (Nat.le_of_ble_eq_true rfl) ?_
  show avc Try.prog SP _ _ _ _ _ _
  dsimp only [avc, startS, Array.toList, Try.f10]
  repeat' ((try conv => whnf) <;> (first | (refine Hold.mk ?_) | (refine And.intro (fun _ => ?_) (fun h => Bool.noConfusion h)) | (refine And.intro (fun h => Bool.noConfusion h) (fun _ => ?_)) | (refine And.intro (Nat.le_of_ble_eq_true rfl) ?_) | (refine And.intro (fun _ => ?_) (fun h => Bool.noConfusion ((beq_self_eq_true _).symm.trans h))) | (refine And.intro (fun h => Bool.noConfusion ((bne_self_eq_false _).symm.trans h)) (fun _ => ?_)) | (refine And.intro (fun h => Bool.noConfusion ((beq_self_eq_true _).symm.trans h)) (fun _ => ?_)) | (refine And.intro (fun _ => ?_) (fun h => Bool.noConfusion ((bne_self_eq_false _).symm.trans h))) | (refine ⟨_, ht1, ?_⟩) | (refine ⟨_, ht2, ?_⟩) | (refine ⟨_, hp, ?_⟩) | (refine ⟨_, hl, ?_⟩) | (refine ⟨_, awake_ok, ?_⟩) | (refine br_beqb hs ?_) | (refine br_beqb hb ?_) | (refine ⟨[], [0, 0, 0, 0, 13, 31], len_ok rfl (by kernel_rfl), ?_⟩) | (exact True.intro) | (refine And.intro (show eqT _ _ = true by kernel_rfl) ?_) | (refine And.intro rfl ?_) | (refine And.intro (And.intro (Nat.le_of_ble_eq_true rfl) rfl) ?_) | (refine And.intro (And.intro rfl (And.intro rfl rfl)) ?_) | (exact And.intro rfl (And.intro rfl rfl)) | (exact And.intro rfl rfl) | (refine br_lt ?_ ?_ <;> intro hBr <;> (first | (exfalso; omega) | (exfalso; contradiction) | (exfalso; exact hBr rfl) | skip)) | (refine br_lt_ ?_ ?_ <;> intro hBr <;> (first | (exfalso; omega) | (exfalso; contradiction) | (exfalso; exact hBr rfl) | skip)) | (refine br_le ?_ ?_ <;> intro hBr <;> (first | (exfalso; omega) | (exfalso; contradiction) | (exfalso; exact hBr rfl) | skip)) | (refine br_le_ ?_ ?_ <;> intro hBr <;> (first | (exfalso; omega) | (exfalso; contradiction) | (exfalso; exact hBr rfl) | skip)) | (refine br_eq ?_ ?_ <;> intro hBr <;> (first | (exfalso; omega) | (exfalso; contradiction) | (exfalso; exact hBr rfl) | skip)) | (refine br_eq_ ?_ ?_ <;> intro hBr <;> (first | (exfalso; omega) | (exfalso; contradiction) | (exfalso; exact hBr rfl) | skip)) | (refine br_seq ?_ ?_ <;> intro hBr <;> (first | (exfalso; omega) | (exfalso; contradiction) | (exfalso; exact hBr rfl) | skip)) | (refine br_seq_ ?_ ?_ <;> intro hBr <;> (first | (exfalso; omega) | (exfalso; contradiction) | (exfalso; exact hBr rfl) | skip)) | (refine br_not ?_) | (refine br_not_ ?_) | (refine br_and ?_) | (refine br_and_ ?_) | (refine And.intro (by omega) ?_) | (refine ⟨_, wrap_i64 (by omega), ?_⟩) | (refine ⟨_, wrap_u64 (by omega) (by omega), ?_⟩) | (refine ⟨_, wrap_u8 (by omega) (by omega), ?_⟩) | (refine ⟨_, wrap_u32 (by omega) (by omega), ?_⟩) | (refine ⟨_, wrap_u16 (by omega) (by omega), ?_⟩) | (refine ⟨_, rfl, ?_⟩) | (exact rfl)))
theorem never_all (e n c d : Nat) : SP 10 [cnt e n, cnt c d] (B true) := by
  have cases : ∀ e n, (Okc e n ∧ n ≠ 281474976710656) ∨ ∃ c1, c1 ≠ 0 ∧ SP 34 [cnt e n] (.tup [T [], Z c1]) := by
    intro e n
    by_cases h : Okc e n
    · by_cases hl : n = 281474976710656
      · exact .inr ⟨19, by omega, text_last e n h hl⟩
      · exact .inl ⟨h, hl⟩
    · exact .inr ⟨2, by omega, text_no e n h⟩
  rcases cases e n with ⟨h1, g1⟩ | ⟨c1, hc1, h1⟩
  · have t1 := text_yes e n h1 g1
    rcases cases c d with ⟨h2, g2⟩ | ⟨c2, hc2, h2⟩
    · have he : e < 281474976710656 := by unfold Okc at h1; omega
      have hn : n < 281474976710656 := by unfold Okc at h1; omega
      have hc : c < 281474976710656 := by unfold Okc at h2; omega
      have hd : d < 281474976710656 := by unfold Okc at h2; omega
      have hl := less_ok e n c d
      rw [less_eq] at hl
      refine never_yes e n c d _ _ _ t1 (text_yes c d h2 g2) ?_ hl (num12_same he hn hc hd) (num12_less he hn hc hd)
      have e12 := num12_length e n
      have q1e : (q1 (num12 e n)).1 = e := by
        rw [q1_long (by omega)]
        show Quill.tell ((num12 e n).take 6) = e
        rw [num12, List.take_left' (Quill.numB_length 6 e), Quill.tell_numB]
        exact Nat.mod_eq_of_lt he
      have q2e : (q2 (num12 e n)).1 = n := by
        rw [q2_long (by omega)]
        show Quill.tell (((num12 e n).drop 6).take 6) = n
        rw [num12, List.drop_left' (Quill.numB_length 6 e), List.take_of_length_le (by rw [Quill.numB_length]; omega), Quill.tell_numB]
        exact Nat.mod_eq_of_lt hn
      have := parse_yes (num12 e n) (by omega) ⟨qf_12 e12, by rw [q1e, q2e]; exact h1⟩
      rwa [q1e, q2e] at this
    · exact never_no2 e n c d c2 _ hc2 t1 h2
  · rcases cases c d with ⟨h2, g2⟩ | ⟨c2, hc2, h2⟩
    · exact never_no1 e n c d c1 0 _ hc1 (.inl rfl) h1 (text_yes c d h2 g2)
    · exact never_no1 e n c d c1 c2 [] hc1 (.inr rfl) h1 h2
theorem nonceNever_walk (a b : Array Value) (w : World) (ha : CellsOk [.int .u64, .int .u64] a.toList) (hb : CellsOk [.int .u64, .int .u64] b.toList) :
    Calls Try.prog 10 #[.agg a, .agg b] w fun e w' => e = .returned (.bool true) ∧ Below w.heap.size w w' := by
  obtain ⟨e, n, rfl⟩ := cells_two ha
  obtain ⟨c, d, rfl⟩ := cells_two hb
  exact calls_of (vs := [_, _]) (never_all e n c d) w
end Go.Proofs.Ytfonmnodjmeigaa.Av
