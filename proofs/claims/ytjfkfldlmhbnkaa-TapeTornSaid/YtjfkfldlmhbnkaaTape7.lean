/- tape: the reference's one text and all texts, as contracts. No conditions but that numbers have 64 bits. -/
import Derived.Test.YtjfkfldlmhbnkaaTape6
namespace Go.Proofs.Ytjfkfldlmhbnkaa.Av
set_option maxHeartbeats 1000000
open Go Go.RowKit
set_option linter.unusedVariables false
set_option linter.unusedSimpArgs false
set_option maxRecDepth 100000

theorem first2 {p : List UInt8} (h : p.length = 48) : ∃ b0 b1 : UInt8, (bs p)[(0 : Int).toNat]? = some b0 ∧ (bs p)[(1 : Int).toNat]? = some b1 ∧ 256 * (b0.toNat : Int) + (b1.toNat : Int) = ((Quill.tell (p.take 2) : Nat) : Int) := by
  match p, h with
  | b0 :: b1 :: r, h =>
    refine ⟨b0, b1, ?_, ?_, ?_⟩
    · show (bs (b0 :: b1 :: r))[0]? = some b0
      rw [getElem?_pos (bs (b0 :: b1 :: r)) 0 (by rw [bs_size]; simp)]; rfl
    · show (bs (b0 :: b1 :: r))[1]? = some b1
      rw [getElem?_pos (bs (b0 :: b1 :: r)) 1 (by rw [bs_size]; simp)]; rfl
    · simp [Quill.tell]; omega
theorem pays_48 (L : List (List UInt8)) (g : Nat) : ∀ (k : Nat) (at_ : Int) (i : Nat) (h : i < (paysO L g at_ k).length), ((paysO L g at_ k)[i]).length = 48 := by
  intro k at_ i h
  have := paysO_at L g k at_ i h
  rw [List.getElem?_eq_getElem h] at this
  exact payO_len this
theorem flat_le {ps : List (List UInt8)} (h : ∀ i (h : i < ps.length), (ps[i]).length = 48) : ∀ i, (ps.take i).flatten.length ≤ 48 * i
  | 0 => by simp
  | i + 1 => by
    have ih := flat_le h i
    rw [List.take_add_one, List.flatten_append, List.length_append]
    by_cases hi : i < ps.length
    · have := h i hi
      rw [List.getElem?_eq_getElem hi]
      show _ + [ps[i]].flatten.length ≤ _
      rw [List.flatten_singleton]; omega
    · rw [List.getElem?_eq_none (by omega)]
      show _ + ([] : List (List UInt8)).flatten.length ≤ _
      rw [List.flatten_nil, List.length_nil]; omega
section
variable {L : List (List UInt8)} {g : Nat} {at_ : Int}
theorem rone_yes {txt : List UInt8} {k : Nat} (hL : L.length ≤ 1000000) (h : textO L g at_ = some (txt, k)) : SP 50 [.vs L.length (L.map T), U g, Z at_] (.tup [T txt, Z (at_ + (k : Int)), B true]) := by
  have hpos := textO_pos h
  unfold textO at h
  split at h
  · cases h
  rename_i p0 hp
  split at h
  · cases h
  rename_i h0
  split at h
  · cases h
  rename_i hfull
  injection h with h
  injection h with h1 h2
  subst h2
  obtain ⟨b0, b1, hb0, hb1, hb⟩ := first2 (payO_len hp)
  have hle := paysO_len L g (szT (Quill.tell (p0.take 2))) at_
  have hsz := szT_le (Quill.tell (p0.take 2))
  have hfl := pays_flat L g (szT (Quill.tell (p0.take 2))) at_
  have h48 := pays_48 L g (szT (Quill.tell (p0.take 2))) at_
  have hS := rsize_ok (Quill.tell (p0.take 2))
  rw [← hb] at hS
  have hn : szT (Quill.tell (p0.take 2)) = (Quill.tell (p0.take 2) + 2 + 47) / 48 := by
    unfold szT at h0 ⊢
    split at h0
    · exact absurd rfl h0
    · rename_i hc; rw [if_neg hc]
  have htk : (paysO L g at_ (szT (Quill.tell (p0.take 2)))).take (szT (Quill.tell (p0.take 2))) = paysO L g at_ (szT (Quill.tell (p0.take 2))) := List.take_of_length_le (by omega)
  refine rone_loop (szT (Quill.tell (p0.take 2))) (szT (Quill.tell (p0.take 2))) 0 (paysO L g at_ (szT (Quill.tell (p0.take 2)))) _ true (by omega) (by omega) (rpay_yes hp) hb0 hb1 (UInt8.toNat_lt _) (UInt8.toNat_lt _) hS (by omega) (by omega) (by omega) (flat_le h48) h48 (by omega) (fun i hi _ => ?_) (.inr ⟨rfl, ?_, ?_, rfl, rfl⟩)
  · have := paysO_at L g _ at_ i hi
    rw [List.getElem?_eq_getElem hi] at this
    exact rpay_yes this
  · rw [htk, bs_size, hb]; omega
  · rw [htk, bs_cut, ← h1, hb]
    congr 1
    rw [show (2 + ((Quill.tell (p0.take 2) : Nat) : Int)).toNat - (2 : Int).toNat = Quill.tell (p0.take 2) by omega]
    rfl
theorem rone_no (hL : L.length ≤ 1000000) (h : textO L g at_ = none) : SP 50 [.vs L.length (L.map T), U g, Z at_] (.tup [T [], Z at_, B false]) := by
  unfold textO at h
  split at h
  · rename_i hp
    exact rone_0 (rpay_no hp)
  · rename_i p0 hp
    obtain ⟨b0, b1, hb0, hb1, hb⟩ := first2 (payO_len hp)
    have hS := rsize_ok (Quill.tell (p0.take 2))
    rw [← hb] at hS
    split at h
    · rename_i h0
      rw [h0] at hS
      exact rone_1 (rpay_yes hp) hb0 hb1 (UInt8.toNat_lt _) (UInt8.toNat_lt _) hS
    · rename_i h0
      split at h
      · rename_i hsh
        have hle := paysO_len L g (szT (Quill.tell (p0.take 2))) at_
        have hsz := szT_le (Quill.tell (p0.take 2))
        have hend := paysO_end L g _ at_ hsh
        have h48 := pays_48 L g (szT (Quill.tell (p0.take 2))) at_
        obtain ⟨_, _, q1, q2, _, _⟩ := payO_some hp
        refine rone_loop (szT (Quill.tell (p0.take 2))) (paysO L g at_ (szT (Quill.tell (p0.take 2)))).length 0 (paysO L g at_ (szT (Quill.tell (p0.take 2)))) _ false (by omega) (by omega) (rpay_yes hp) hb0 hb1 (UInt8.toNat_lt _) (UInt8.toNat_lt _) hS (by omega) (by omega) (by omega) (flat_le h48) h48 (by omega) (fun i hi _ => ?_) (.inl ⟨hsh, rpay_no hend, rfl, rfl, rfl⟩)
        have := paysO_at L g _ at_ i hi
        rw [List.getElem?_eq_getElem hi] at this
        exact rpay_yes this
      · cases h
end
theorem rscan_walk (L : List (List UInt8)) (g : Nat) (hL : L.length ≤ 1000000) (R : List (List UInt8) × Int) (hR : scanO L g (L.length + 1) 0 = R) :
    SP 48 [.vs L.length (L.map T), U g] (.tup [.own 9 R.1.length (R.1.map T), Z R.2]) := by
  refine S_ Try.func48 (by kernel_rfl) rfl (Nat.le_of_ble_eq_true rfl) ?_
  show avc Try.prog SP _ _ _ _ _ _
  dsimp only [avc, startS, Array.toList, Try.f48]
  repeat' ((try conv => whnf) <;> (first | (refine Hold.mk ?_) | (refine And.intro (fun _ => ?_) (fun h => Bool.noConfusion h)) | (refine And.intro (fun h => Bool.noConfusion h) (fun _ => ?_)) | (refine And.intro (Nat.le_of_ble_eq_true rfl) ?_) | (refine And.intro (fun _ => ?_) (fun h => Bool.noConfusion ((beq_self_eq_true _).symm.trans h))) | (refine And.intro (fun h => Bool.noConfusion ((bne_self_eq_false _).symm.trans h)) (fun _ => ?_)) | (refine And.intro (fun h => Bool.noConfusion ((beq_self_eq_true _).symm.trans h)) (fun _ => ?_)) | (refine And.intro (fun _ => ?_) (fun h => Bool.noConfusion ((bne_self_eq_false _).symm.trans h))) | (exact True.intro) | (refine And.intro (show eqT _ _ = true by kernel_rfl) ?_) | (refine And.intro rfl ?_) | (refine And.intro (And.intro (Nat.le_of_ble_eq_true rfl) rfl) ?_) | (refine And.intro (And.intro rfl (And.intro rfl rfl)) ?_) | (exact And.intro rfl (And.intro rfl rfl)) | (exact And.intro rfl rfl) | (refine br_lt ?_ ?_ <;> intro hBr <;> (first | (exfalso; omega) | (exfalso; contradiction) | (exfalso; exact hBr rfl) | skip)) | (refine br_lt_ ?_ ?_ <;> intro hBr <;> (first | (exfalso; omega) | (exfalso; contradiction) | (exfalso; exact hBr rfl) | skip)) | (refine br_le ?_ ?_ <;> intro hBr <;> (first | (exfalso; omega) | (exfalso; contradiction) | (exfalso; exact hBr rfl) | skip)) | (refine br_le_ ?_ ?_ <;> intro hBr <;> (first | (exfalso; omega) | (exfalso; contradiction) | (exfalso; exact hBr rfl) | skip)) | (refine br_eq ?_ ?_ <;> intro hBr <;> (first | (exfalso; omega) | (exfalso; contradiction) | (exfalso; exact hBr rfl) | skip)) | (refine br_eq_ ?_ ?_ <;> intro hBr <;> (first | (exfalso; omega) | (exfalso; contradiction) | (exfalso; exact hBr rfl) | skip)) | (refine br_seq ?_ ?_ <;> intro hBr <;> (first | (exfalso; omega) | (exfalso; contradiction) | (exfalso; exact hBr rfl) | skip)) | (refine br_seq_ ?_ ?_ <;> intro hBr <;> (first | (exfalso; omega) | (exfalso; contradiction) | (exfalso; exact hBr rfl) | skip)) | (refine br_not ?_) | (refine br_not_ ?_) | (refine br_and ?_) | (refine br_and_ ?_) | (refine And.intro (by omega) ?_) | (refine ⟨_, wrap_i64 (by omega), ?_⟩) | (refine ⟨_, wrap_u64 (by omega) (by omega), ?_⟩) | (refine ⟨_, wrap_u8 (by omega) (by omega), ?_⟩) | (refine ⟨_, wrap_u32 (by omega) (by omega), ?_⟩) | (refine ⟨_, wrap_u16 (by omega) (by omega), ?_⟩) | (refine ⟨_, rfl, ?_⟩) | (exact rfl)))
  refine ⟨[6, 7, 0, 1], [(6, some 9)], fun vs bl => ∃ (ts : List (List UInt8)) (C : List AV) (m : Nat) (a : Int) (f : Nat), C = ts.map T ∧ m = ts.length ∧ 0 ≤ a ∧ a ≤ L.length ∧ L.length - a < f ∧ m ≤ a ∧ (ts ++ (scanO L g f a).1, (scanO L g f a).2) = R ∧ (vs = [.sl 0 m, Z a, .vs L.length (L.map T), U g] ∧
      bl = [rowT C false]), fun vs bl => match vs with | [_, .ex (.int _ a), _, _] => L.length - a.toNat | _ => 0, ?_, ?_⟩
  · exact ⟨[], [], 0, 0, L.length + 1, rfl, rfl, by omega, by omega, by omega, by omega, hR, rfl, rfl⟩
  rintro vs bl ⟨ts, C, m, a, f, hC, hm, h0, h1, h2, h3, h4, rfl, rfl⟩
  obtain ⟨f, rfl⟩ : ∃ f', f = f' + 1 := ⟨f - 1, by omega⟩
  have hcl : C.length = m := by rw [hC, hm, List.length_map]
  cases hx : textO L g a with
  | none =>
    have e : R = (ts, a) := by
      rw [← h4]
      unfold scanO
      rw [hx]
      simp
    subst e
    subst hC hm
    clear hR h4
    have h := rone_no hL hx
    repeat' ((try conv => whnf) <;> (first | (refine Hold.mk ?_) | (refine And.intro (fun _ => ?_) (fun h => Bool.noConfusion h)) | (refine And.intro (fun h => Bool.noConfusion h) (fun _ => ?_)) | (refine And.intro (Nat.le_of_ble_eq_true rfl) ?_) | (refine And.intro (fun _ => ?_) (fun h => Bool.noConfusion ((beq_self_eq_true _).symm.trans h))) | (refine And.intro (fun h => Bool.noConfusion ((bne_self_eq_false _).symm.trans h)) (fun _ => ?_)) | (refine And.intro (fun h => Bool.noConfusion ((beq_self_eq_true _).symm.trans h)) (fun _ => ?_)) | (refine And.intro (fun _ => ?_) (fun h => Bool.noConfusion ((bne_self_eq_false _).symm.trans h))) | (refine ⟨_, h, ?_⟩) | (exact True.intro) | (refine And.intro (show eqT _ _ = true by kernel_rfl) ?_) | (refine And.intro rfl ?_) | (refine And.intro (And.intro (Nat.le_of_ble_eq_true rfl) rfl) ?_) | (refine And.intro (And.intro rfl (And.intro rfl rfl)) ?_) | (exact And.intro rfl (And.intro rfl rfl)) | (exact And.intro rfl rfl) | (refine br_lt ?_ ?_ <;> intro hBr <;> (first | (exfalso; omega) | (exfalso; contradiction) | (exfalso; exact hBr rfl) | skip)) | (refine br_lt_ ?_ ?_ <;> intro hBr <;> (first | (exfalso; omega) | (exfalso; contradiction) | (exfalso; exact hBr rfl) | skip)) | (refine br_le ?_ ?_ <;> intro hBr <;> (first | (exfalso; omega) | (exfalso; contradiction) | (exfalso; exact hBr rfl) | skip)) | (refine br_le_ ?_ ?_ <;> intro hBr <;> (first | (exfalso; omega) | (exfalso; contradiction) | (exfalso; exact hBr rfl) | skip)) | (refine br_eq ?_ ?_ <;> intro hBr <;> (first | (exfalso; omega) | (exfalso; contradiction) | (exfalso; exact hBr rfl) | skip)) | (refine br_eq_ ?_ ?_ <;> intro hBr <;> (first | (exfalso; omega) | (exfalso; contradiction) | (exfalso; exact hBr rfl) | skip)) | (refine br_seq ?_ ?_ <;> intro hBr <;> (first | (exfalso; omega) | (exfalso; contradiction) | (exfalso; exact hBr rfl) | skip)) | (refine br_seq_ ?_ ?_ <;> intro hBr <;> (first | (exfalso; omega) | (exfalso; contradiction) | (exfalso; exact hBr rfl) | skip)) | (refine br_not ?_) | (refine br_not_ ?_) | (refine br_and ?_) | (refine br_and_ ?_) | (refine And.intro (by omega) ?_) | (refine ⟨_, wrap_i64 (by omega), ?_⟩) | (refine ⟨_, wrap_u64 (by omega) (by omega), ?_⟩) | (refine ⟨_, wrap_u8 (by omega) (by omega), ?_⟩) | (refine ⟨_, wrap_u32 (by omega) (by omega), ?_⟩) | (refine ⟨_, wrap_u16 (by omega) (by omega), ?_⟩) | (refine ⟨_, rfl, ?_⟩) | (exact rfl)))
  | some r =>
    obtain ⟨t, k1⟩ := r
    obtain ⟨hk1, _, hk2⟩ := textO_pos hx
    have hnext : (ts ++ [t] ++ (scanO L g f (a + (k1 : Int))).1, (scanO L g f (a + (k1 : Int))).2) = R := by
      rw [← h4, scanO, hx]
      simp
    have h := rone_yes hL hx
    repeat' ((try conv => whnf) <;> (first | (refine Hold.mk ?_) | (refine And.intro (fun _ => ?_) (fun h => Bool.noConfusion h)) | (refine And.intro (fun h => Bool.noConfusion h) (fun _ => ?_)) | (refine And.intro (Nat.le_of_ble_eq_true rfl) ?_) | (refine And.intro (fun _ => ?_) (fun h => Bool.noConfusion ((beq_self_eq_true _).symm.trans h))) | (refine And.intro (fun h => Bool.noConfusion ((bne_self_eq_false _).symm.trans h)) (fun _ => ?_)) | (refine And.intro (fun h => Bool.noConfusion ((beq_self_eq_true _).symm.trans h)) (fun _ => ?_)) | (refine And.intro (fun _ => ?_) (fun h => Bool.noConfusion ((bne_self_eq_false _).symm.trans h))) | (refine ⟨_, h, ?_⟩) | (refine ⟨false, ?_⟩) | (exact True.intro) | (refine And.intro (show eqT _ _ = true by kernel_rfl) ?_) | (refine And.intro rfl ?_) | (refine And.intro (And.intro (Nat.le_of_ble_eq_true rfl) rfl) ?_) | (refine And.intro (And.intro rfl (And.intro rfl rfl)) ?_) | (exact And.intro rfl (And.intro rfl rfl)) | (exact And.intro rfl rfl) | (refine br_lt ?_ ?_ <;> intro hBr <;> (first | (exfalso; omega) | (exfalso; contradiction) | (exfalso; exact hBr rfl) | skip)) | (refine br_lt_ ?_ ?_ <;> intro hBr <;> (first | (exfalso; omega) | (exfalso; contradiction) | (exfalso; exact hBr rfl) | skip)) | (refine br_le ?_ ?_ <;> intro hBr <;> (first | (exfalso; omega) | (exfalso; contradiction) | (exfalso; exact hBr rfl) | skip)) | (refine br_le_ ?_ ?_ <;> intro hBr <;> (first | (exfalso; omega) | (exfalso; contradiction) | (exfalso; exact hBr rfl) | skip)) | (refine br_eq ?_ ?_ <;> intro hBr <;> (first | (exfalso; omega) | (exfalso; contradiction) | (exfalso; exact hBr rfl) | skip)) | (refine br_eq_ ?_ ?_ <;> intro hBr <;> (first | (exfalso; omega) | (exfalso; contradiction) | (exfalso; exact hBr rfl) | skip)) | (refine br_seq ?_ ?_ <;> intro hBr <;> (first | (exfalso; omega) | (exfalso; contradiction) | (exfalso; exact hBr rfl) | skip)) | (refine br_seq_ ?_ ?_ <;> intro hBr <;> (first | (exfalso; omega) | (exfalso; contradiction) | (exfalso; exact hBr rfl) | skip)) | (refine br_not ?_) | (refine br_not_ ?_) | (refine br_and ?_) | (refine br_and_ ?_) | (refine And.intro (by omega) ?_) | (refine ⟨_, wrap_i64 (by omega), ?_⟩) | (refine ⟨_, wrap_u64 (by omega) (by omega), ?_⟩) | (refine ⟨_, wrap_u8 (by omega) (by omega), ?_⟩) | (refine ⟨_, wrap_u32 (by omega) (by omega), ?_⟩) | (refine ⟨_, wrap_u16 (by omega) (by omega), ?_⟩) | (refine ⟨_, rfl, ?_⟩) | (exact rfl)))
    refine And.intro ⟨room_s (by omega), by rw [hs1', hcl, Nat.mul_one], by rw [hs1']; rfl, one_T _⟩ ?_
    repeat' ((try conv => whnf) <;> (first | (refine Hold.mk ?_) | (refine And.intro (fun _ => ?_) (fun h => Bool.noConfusion h)) | (refine And.intro (fun h => Bool.noConfusion h) (fun _ => ?_)) | (refine And.intro (Nat.le_of_ble_eq_true rfl) ?_) | (refine And.intro (fun _ => ?_) (fun h => Bool.noConfusion ((beq_self_eq_true _).symm.trans h))) | (refine And.intro (fun h => Bool.noConfusion ((bne_self_eq_false _).symm.trans h)) (fun _ => ?_)) | (refine And.intro (fun h => Bool.noConfusion ((beq_self_eq_true _).symm.trans h)) (fun _ => ?_)) | (refine And.intro (fun _ => ?_) (fun h => Bool.noConfusion ((bne_self_eq_false _).symm.trans h))) | (exact True.intro) | (refine And.intro (show eqT _ _ = true by kernel_rfl) ?_) | (refine And.intro rfl ?_) | (refine And.intro (And.intro (Nat.le_of_ble_eq_true rfl) rfl) ?_) | (refine And.intro (And.intro rfl (And.intro rfl rfl)) ?_) | (exact And.intro rfl (And.intro rfl rfl)) | (exact And.intro rfl rfl) | (refine br_lt ?_ ?_ <;> intro hBr <;> (first | (exfalso; omega) | (exfalso; contradiction) | (exfalso; exact hBr rfl) | skip)) | (refine br_lt_ ?_ ?_ <;> intro hBr <;> (first | (exfalso; omega) | (exfalso; contradiction) | (exfalso; exact hBr rfl) | skip)) | (refine br_le ?_ ?_ <;> intro hBr <;> (first | (exfalso; omega) | (exfalso; contradiction) | (exfalso; exact hBr rfl) | skip)) | (refine br_le_ ?_ ?_ <;> intro hBr <;> (first | (exfalso; omega) | (exfalso; contradiction) | (exfalso; exact hBr rfl) | skip)) | (refine br_eq ?_ ?_ <;> intro hBr <;> (first | (exfalso; omega) | (exfalso; contradiction) | (exfalso; exact hBr rfl) | skip)) | (refine br_eq_ ?_ ?_ <;> intro hBr <;> (first | (exfalso; omega) | (exfalso; contradiction) | (exfalso; exact hBr rfl) | skip)) | (refine br_seq ?_ ?_ <;> intro hBr <;> (first | (exfalso; omega) | (exfalso; contradiction) | (exfalso; exact hBr rfl) | skip)) | (refine br_seq_ ?_ ?_ <;> intro hBr <;> (first | (exfalso; omega) | (exfalso; contradiction) | (exfalso; exact hBr rfl) | skip)) | (refine br_not ?_) | (refine br_not_ ?_) | (refine br_and ?_) | (refine br_and_ ?_) | (refine And.intro (by omega) ?_) | (refine ⟨_, wrap_i64 (by omega), ?_⟩) | (refine ⟨_, wrap_u64 (by omega) (by omega), ?_⟩) | (refine ⟨_, wrap_u8 (by omega) (by omega), ?_⟩) | (refine ⟨_, wrap_u32 (by omega) (by omega), ?_⟩) | (refine ⟨_, wrap_u16 (by omega) (by omega), ?_⟩) | (refine ⟨_, rfl, ?_⟩) | (exact rfl)))
    exact ⟨⟨ts ++ [t], C ++ [T t], m + 1, a + (k1 : Int), f, by rw [hC, List.map_append]; rfl, by rw [hm, List.length_append]; rfl, by omega, by omega, by omega, by omega, hnext, rfl, rfl⟩, (by show L.length - (a + (k1 : Int)).toNat < L.length - a.toNat; omega)⟩
end Go.Proofs.Ytjfkfldlmhbnkaa.Av
