/- tree: the reference's Put and Apply; ops handed over, walked. No conditions but that sizes stay far below what memory holds. -/
import Derived.Test.YtdicpbecdhaphaaTree9
namespace Go.Proofs.Ytdicpbecdhaphaa.Av
set_option maxHeartbeats 1000000
open Go Go.RowKit Tre
set_option linter.unusedVariables false
set_option linter.unusedSimpArgs false
set_option maxRecDepth 100000

/-- the place of a key: the first one that is not less -/
def posL (k : Key) : List Pr → Nat
  | [] => 0
  | a :: l => if lt a.1 k = true then posL k l + 1 else 0
theorem posL_le (k : Key) : ∀ l : List Pr, posL k l ≤ l.length
  | [] => Nat.le_refl _
  | a :: l => by have := posL_le k l; unfold posL; split <;> simp <;> omega
theorem posL_lt (k : Key) : ∀ (l : List Pr) (i : Nat) (h : i < l.length), i < posL k l → lt (l[i]).1 k = true
  | a :: l, i, h, hp => by
    unfold posL at hp
    by_cases ha : lt a.1 k = true
    · rw [if_pos ha] at hp
      cases i with
      | zero => exact ha
      | succ i => exact posL_lt k l i (by simpa using h) (by omega)
    · rw [if_neg ha] at hp; omega
theorem posL_at (k : Key) : ∀ (l : List Pr) (h : posL k l < l.length), lt (l[posL k l]).1 k = false
  | a :: l, h => by
    generalize hq : posL k (a :: l) = q at h
    unfold posL at hq
    by_cases ha : lt a.1 k = true
    · rw [if_pos ha] at hq
      subst hq
      exact posL_at k l (by simpa using h)
    · rw [if_neg ha] at hq
      subst hq
      simpa using ha
theorem putL_take (k v : Key) (l : List Pr) : putL k v l = l.take (posL k l) ++ putL k v (l.drop (posL k l)) := by
  conv => lhs; rw [← List.take_append_drop (posL k l) l]
  refine putL_less _ fun a ha => ?_
  obtain ⟨i, hi, rfl⟩ := List.getElem_of_mem ha
  rw [List.length_take] at hi
  rw [List.getElem_take]
  exact posL_lt k l i (by omega) (by omega)
theorem putL_eq {k v : Key} {l : List Pr} (h : posL k l < l.length) (he : (l[posL k l]).1 = k) : putL k v l = l.take (posL k l) ++ (k, v) :: l.drop (posL k l + 1) := by
  rw [putL_take, List.drop_eq_getElem_cons h]
  congr 1
  generalize l[posL k l] = q at he
  obtain ⟨a, b⟩ := q
  simp only at he
  subst he
  exact putL_same
theorem putL_ne {k v : Key} {l : List Pr} (h : ∀ h : posL k l < l.length, (l[posL k l]).1 ≠ k) : putL k v l = l.take (posL k l) ++ (k, v) :: l.drop (posL k l) := by
  rw [putL_take]
  congr 1
  by_cases hp : posL k l < l.length
  · rw [List.drop_eq_getElem_cons hp]
    have h1 := posL_at k l hp
    have h2 := h hp
    generalize l[posL k l] = q at h1 h2
    obtain ⟨a, b⟩ := q
    unfold putL
    rw [if_neg (by simp only at h1; rw [h1]; decide), if_neg h2]
  · rw [List.drop_of_length_le (by omega)]; rfl
noncomputable abbrev tkA (l : List Pr) (p : Nat) : List AV := takeL (prC l) (mulS (0 : Int).toNat (sizeT Try.prog 49)) (mulS ((p : Int).toNat - (0 : Int).toNat) (sizeT Try.prog 49))
noncomputable abbrev dpA (l : List Pr) (n : Nat) (q : Int) : List AV := takeL (prC l) (mulS q.toNat (sizeT Try.prog 49)) (mulS ((n : Int).toNat - q.toNat) (sizeT Try.prog 49))
theorem dpA_eq (l : List Pr) (n : Nat) (q : Int) (i : Nat) (hq : q = (i : Int)) (hn : l.length = n) (hi : i ≤ n) : dpA l n q = prC (l.drop i) := by
  subst hq; exact prC_drop l i n hn hi
theorem pput_fin (l : List Pr) (k v : Key) (p n i : Nat) (q : Int) (R : List Pr) (hn : l.length = n) (hp : p ≤ n) (hq : q = (i : Int)) (hi : i ≤ n) (hR : R = l.take p ++ (k, v) :: l.drop i) :
    AV.vs (0 + ((p : Int).toNat - (0 : Int).toNat) + 1 + ((n : Int).toNat - q.toNat)) ([] ++ tkA l p ++ [T k, T v] ++ dpA l n q) = .vs R.length (prC R) := by
  rw [dpA_eq l n q i hq hn hi, show tkA l p = prC (l.take p) from prC_take l p, hR, hq]
  congr 1
  · simp only [Int.toNat_natCast, Int.toNat_zero, List.length_append, List.length_cons, List.length_take, List.length_drop]; omega
  · rw [prC_app]; simp [prC]
theorem pput_ok (l : List Pr) (k v : Key) (hl : l.length ≤ 1000000) : SP 61 [.vs l.length (prC l), T k, T v] (.vs (putL k v l).length (prC (putL k v l))) := by
  obtain ⟨R, hR⟩ : ∃ R, R = putL k v l := ⟨_, rfl⟩
  rw [← hR]
  obtain ⟨p, hp⟩ : ∃ p, p = posL k l := ⟨_, rfl⟩
  have hple := posL_le k l
  have hplt := posL_lt k l
  have hpat := posL_at k l
  have heq := putL_eq (k := k) (v := v) (l := l)
  have hne := putL_ne (k := k) (v := v) (l := l)
  rw [← hR] at heq hne
  simp only [← hp] at hple hplt hpat heq hne
  obtain ⟨n, hn⟩ : ∃ n, l.length = n := ⟨_, rfl⟩
  simp only [hn] at hple hplt hpat heq hne hl ⊢
  have hroom : n * sizeT Try.prog 49 ≤ (prC l).length := by rw [prC_len, hsP, hn]; omega
  have htk : tkA l p = prC (l.take p) := prC_take l p
  have hs := hsP
  have a1 : ([] : List AV).length = 0 * sizeT Try.prog 49 := by simp
  have b1 : (tkA l p).length = ((p : Int).toNat - (0 : Int).toNat) * sizeT Try.prog 49 ∧ ∀ u ∈ tkA l p, one1 u = true := by
    rw [htk]
    refine ⟨?_, one_pr _⟩
    rw [prC_len, hs, List.length_take, hn]; simp; omega
  have a2 : ([] ++ tkA l p).length = (0 + ((p : Int).toNat - (0 : Int).toNat)) * sizeT Try.prog 49 := by rw [List.nil_append, b1.1, Nat.zero_add]
  have b2 := pre2 k v
  have a3 : ([] ++ tkA l p ++ [T k, T v]).length = (0 + ((p : Int).toNat - (0 : Int).toNat) + 1) * sizeT Try.prog 49 := by rw [List.length_append, a2, Nat.add_mul (0 + _) 1, b2.1]
  have b3 : ∀ (q : Int) (i : Nat), q = (i : Int) → i ≤ n → (dpA l n q).length = ((n : Int).toNat - q.toNat) * sizeT Try.prog 49 ∧ ∀ u ∈ dpA l n q, one1 u = true := by
    intro q i hq hi
    rw [dpA_eq l n q i hq hn hi, hq]
    refine ⟨?_, one_pr _⟩
    rw [prC_len, hs, List.length_drop, hn]; simp
  refine S_ Try.func61 (by kernel_rfl) rfl (Nat.le_of_ble_eq_true rfl) ?_
  show avc Try.prog SP _ _ _ _ _ _
  dsimp only [avc, startS, Array.toList, Try.f61]
  repeat' ((try conv => whnf) <;> (first | (refine Hold.mk ?_) | (refine And.intro (fun _ => ?_) (fun h => Bool.noConfusion h)) | (refine And.intro (fun h => Bool.noConfusion h) (fun _ => ?_)) | (refine And.intro (Nat.le_of_ble_eq_true rfl) ?_) | (refine And.intro (fun _ => ?_) (fun h => Bool.noConfusion ((beq_self_eq_true _).symm.trans h))) | (refine And.intro (fun h => Bool.noConfusion ((bne_self_eq_false _).symm.trans h)) (fun _ => ?_)) | (refine And.intro (fun h => Bool.noConfusion ((beq_self_eq_true _).symm.trans h)) (fun _ => ?_)) | (refine And.intro (fun _ => ?_) (fun h => Bool.noConfusion ((bne_self_eq_false _).symm.trans h))) | (exact True.intro) | (refine And.intro (show eqT _ _ = true by kernel_rfl) ?_) | (refine And.intro rfl ?_) | (refine And.intro (And.intro (Nat.le_of_ble_eq_true rfl) rfl) ?_) | (refine And.intro (And.intro rfl rfl) ?_) | (refine And.intro (And.intro rfl (And.intro rfl rfl)) ?_) | (exact And.intro rfl (And.intro rfl rfl)) | (exact And.intro rfl rfl) | (refine br_lt ?_ ?_ <;> intro hBr <;> (first | (exfalso; omega) | (exfalso; contradiction) | (exfalso; exact hBr rfl) | skip)) | (refine br_lt_ ?_ ?_ <;> intro hBr <;> (first | (exfalso; omega) | (exfalso; contradiction) | (exfalso; exact hBr rfl) | skip)) | (refine br_le ?_ ?_ <;> intro hBr <;> (first | (exfalso; omega) | (exfalso; contradiction) | (exfalso; exact hBr rfl) | skip)) | (refine br_le_ ?_ ?_ <;> intro hBr <;> (first | (exfalso; omega) | (exfalso; contradiction) | (exfalso; exact hBr rfl) | skip)) | (refine br_eq ?_ ?_ <;> intro hBr <;> (first | (exfalso; omega) | (exfalso; contradiction) | (exfalso; exact hBr rfl) | skip)) | (refine br_eq_ ?_ ?_ <;> intro hBr <;> (first | (exfalso; omega) | (exfalso; contradiction) | (exfalso; exact hBr rfl) | skip)) | (refine br_seq ?_ ?_ <;> intro hBr <;> (first | (exfalso; omega) | (exfalso; contradiction) | (exfalso; exact hBr rfl) | skip)) | (refine br_seq_ ?_ ?_ <;> intro hBr <;> (first | (exfalso; omega) | (exfalso; contradiction) | (exfalso; exact hBr rfl) | skip)) | (refine br_not ?_) | (refine br_not_ ?_) | (refine br_and ?_) | (refine br_and_ ?_) | (refine And.intro (by omega) ?_) | (refine ⟨_, wrap_i64 (by omega), ?_⟩) | (refine ⟨_, wrap_u64 (by omega) (by omega), ?_⟩) | (refine ⟨_, wrap_u8 (by omega) (by omega), ?_⟩) | (refine ⟨_, wrap_u32 (by omega) (by omega), ?_⟩) | (refine ⟨_, wrap_u16 (by omega) (by omega), ?_⟩) | (refine ⟨_, rfl, ?_⟩) | (exact rfl)))
  refine ⟨[7, 0, 1, 2], [], fun vs bl => ∃ i : Nat, i ≤ p ∧ (vs = [Z i, .vs n (prC l), T k, T v] ∧ bl = []), muI n, ?_, ?_⟩
  · exact ⟨0, by omega, rfl, rfl⟩
  rintro vs bl ⟨i, hi, rfl, rfl⟩
  by_cases hip : i < p
  · have hin : i < l.length := by omega
    have h1 := prK hin
    have hb : ltB (l[i]).1 k = true := by rw [ltB_eq]; exact hplt i (by omega) hip
    have hdec := mu_I (n := n) (i := i) (by omega)
    clear hR heq hne hplt hpat
    repeat' ((try conv => whnf) <;> (first | (refine Hold.mk ?_) | (refine And.intro (fun _ => ?_) (fun h => Bool.noConfusion h)) | (refine And.intro (fun h => Bool.noConfusion h) (fun _ => ?_)) | (refine And.intro (Nat.le_of_ble_eq_true rfl) ?_) | (refine And.intro (fun _ => ?_) (fun h => Bool.noConfusion ((beq_self_eq_true _).symm.trans h))) | (refine And.intro (fun h => Bool.noConfusion ((bne_self_eq_false _).symm.trans h)) (fun _ => ?_)) | (refine And.intro (fun h => Bool.noConfusion ((beq_self_eq_true _).symm.trans h)) (fun _ => ?_)) | (refine And.intro (fun _ => ?_) (fun h => Bool.noConfusion ((bne_self_eq_false _).symm.trans h))) | (refine ⟨_, h1, ?_⟩) | (refine br_t hb ?_) | (exact True.intro) | (refine And.intro (show eqT _ _ = true by kernel_rfl) ?_) | (refine And.intro rfl ?_) | (refine And.intro (And.intro (Nat.le_of_ble_eq_true rfl) rfl) ?_) | (refine And.intro (And.intro rfl rfl) ?_) | (refine And.intro (And.intro rfl (And.intro rfl rfl)) ?_) | (exact And.intro rfl (And.intro rfl rfl)) | (exact And.intro rfl rfl) | (refine br_lt ?_ ?_ <;> intro hBr <;> (first | (exfalso; omega) | (exfalso; contradiction) | (exfalso; exact hBr rfl) | skip)) | (refine br_lt_ ?_ ?_ <;> intro hBr <;> (first | (exfalso; omega) | (exfalso; contradiction) | (exfalso; exact hBr rfl) | skip)) | (refine br_le ?_ ?_ <;> intro hBr <;> (first | (exfalso; omega) | (exfalso; contradiction) | (exfalso; exact hBr rfl) | skip)) | (refine br_le_ ?_ ?_ <;> intro hBr <;> (first | (exfalso; omega) | (exfalso; contradiction) | (exfalso; exact hBr rfl) | skip)) | (refine br_eq ?_ ?_ <;> intro hBr <;> (first | (exfalso; omega) | (exfalso; contradiction) | (exfalso; exact hBr rfl) | skip)) | (refine br_eq_ ?_ ?_ <;> intro hBr <;> (first | (exfalso; omega) | (exfalso; contradiction) | (exfalso; exact hBr rfl) | skip)) | (refine br_seq ?_ ?_ <;> intro hBr <;> (first | (exfalso; omega) | (exfalso; contradiction) | (exfalso; exact hBr rfl) | skip)) | (refine br_seq_ ?_ ?_ <;> intro hBr <;> (first | (exfalso; omega) | (exfalso; contradiction) | (exfalso; exact hBr rfl) | skip)) | (refine br_not ?_) | (refine br_not_ ?_) | (refine br_and ?_) | (refine br_and_ ?_) | (refine And.intro (by omega) ?_) | (refine ⟨_, wrap_i64 (by omega), ?_⟩) | (refine ⟨_, wrap_u64 (by omega) (by omega), ?_⟩) | (refine ⟨_, wrap_u8 (by omega) (by omega), ?_⟩) | (refine ⟨_, wrap_u32 (by omega) (by omega), ?_⟩) | (refine ⟨_, wrap_u16 (by omega) (by omega), ?_⟩) | (refine ⟨_, rfl, ?_⟩) | (exact rfl)))
    exact ⟨⟨i + 1, by omega, rfl, rfl⟩, hdec _ _ _ _⟩
  · obtain rfl : i = p := by omega
    by_cases hpn : i < n
    · have hin : i < l.length := by omega
      have h1 := prK hin
      have hb : ltB (l[i]).1 k = false := by rw [ltB_eq]; exact hpat hpn
      have he2 := eqT_ (l[i]).1 k
      by_cases he : (l[i]).1 = k
      · rw [decide_eq_true he] at he2
        have hf := pput_fin l k v i n (i + 1) ((i : Int) + 1) R hn hple rfl (by omega) (heq hpn he)
        have b4 := b3 ((i : Int) + 1) (i + 1) rfl (by omega)
        clear hR heq hne hplt hpat b3
        repeat' ((try conv => whnf) <;> (first | (refine Hold.mk ?_) | (refine And.intro (fun _ => ?_) (fun h => Bool.noConfusion h)) | (refine And.intro (fun h => Bool.noConfusion h) (fun _ => ?_)) | (refine And.intro (Nat.le_of_ble_eq_true rfl) ?_) | (refine And.intro (fun _ => ?_) (fun h => Bool.noConfusion ((beq_self_eq_true _).symm.trans h))) | (refine And.intro (fun h => Bool.noConfusion ((bne_self_eq_false _).symm.trans h)) (fun _ => ?_)) | (refine And.intro (fun h => Bool.noConfusion ((beq_self_eq_true _).symm.trans h)) (fun _ => ?_)) | (refine And.intro (fun _ => ?_) (fun h => Bool.noConfusion ((bne_self_eq_false _).symm.trans h))) | (refine ⟨_, h1, ?_⟩) | (refine br_f hb ?_) | (refine br_t he2 ?_) | (refine ⟨false, ?_⟩) | (refine And.intro ⟨by omega, by omega, by omega, hroom⟩ ?_) | (refine And.intro ⟨room_p (by omega), a1, b1⟩ ?_) | (refine And.intro ⟨room_p (by omega), a2, b2⟩ ?_) | (refine And.intro ⟨room_p (by omega), a3, b4⟩ ?_) | (exact True.intro) | (refine And.intro (show eqT _ _ = true by kernel_rfl) ?_) | (refine And.intro rfl ?_) | (refine And.intro (And.intro (Nat.le_of_ble_eq_true rfl) rfl) ?_) | (refine And.intro (And.intro rfl rfl) ?_) | (refine And.intro (And.intro rfl (And.intro rfl rfl)) ?_) | (exact And.intro rfl (And.intro rfl rfl)) | (exact And.intro rfl rfl) | (refine br_lt ?_ ?_ <;> intro hBr <;> (first | (exfalso; omega) | (exfalso; contradiction) | (exfalso; exact hBr rfl) | skip)) | (refine br_lt_ ?_ ?_ <;> intro hBr <;> (first | (exfalso; omega) | (exfalso; contradiction) | (exfalso; exact hBr rfl) | skip)) | (refine br_le ?_ ?_ <;> intro hBr <;> (first | (exfalso; omega) | (exfalso; contradiction) | (exfalso; exact hBr rfl) | skip)) | (refine br_le_ ?_ ?_ <;> intro hBr <;> (first | (exfalso; omega) | (exfalso; contradiction) | (exfalso; exact hBr rfl) | skip)) | (refine br_eq ?_ ?_ <;> intro hBr <;> (first | (exfalso; omega) | (exfalso; contradiction) | (exfalso; exact hBr rfl) | skip)) | (refine br_eq_ ?_ ?_ <;> intro hBr <;> (first | (exfalso; omega) | (exfalso; contradiction) | (exfalso; exact hBr rfl) | skip)) | (refine br_seq ?_ ?_ <;> intro hBr <;> (first | (exfalso; omega) | (exfalso; contradiction) | (exfalso; exact hBr rfl) | skip)) | (refine br_seq_ ?_ ?_ <;> intro hBr <;> (first | (exfalso; omega) | (exfalso; contradiction) | (exfalso; exact hBr rfl) | skip)) | (refine br_not ?_) | (refine br_not_ ?_) | (refine br_and ?_) | (refine br_and_ ?_) | (refine And.intro (by omega) ?_) | (refine ⟨_, wrap_i64 (by omega), ?_⟩) | (refine ⟨_, wrap_u64 (by omega) (by omega), ?_⟩) | (refine ⟨_, wrap_u8 (by omega) (by omega), ?_⟩) | (refine ⟨_, wrap_u32 (by omega) (by omega), ?_⟩) | (refine ⟨_, wrap_u16 (by omega) (by omega), ?_⟩) | (refine ⟨_, rfl, ?_⟩) | (exact rfl)))
        exact hf
      · rw [decide_eq_false he] at he2
        have hf := pput_fin l k v i n i (i : Int) R hn hple rfl (by omega) (hne fun _ => he)
        have b4 := b3 (i : Int) i rfl (by omega)
        clear hR heq hne hplt hpat b3
        repeat' ((try conv => whnf) <;> (first | (refine Hold.mk ?_) | (refine And.intro (fun _ => ?_) (fun h => Bool.noConfusion h)) | (refine And.intro (fun h => Bool.noConfusion h) (fun _ => ?_)) | (refine And.intro (Nat.le_of_ble_eq_true rfl) ?_) | (refine And.intro (fun _ => ?_) (fun h => Bool.noConfusion ((beq_self_eq_true _).symm.trans h))) | (refine And.intro (fun h => Bool.noConfusion ((bne_self_eq_false _).symm.trans h)) (fun _ => ?_)) | (refine And.intro (fun h => Bool.noConfusion ((beq_self_eq_true _).symm.trans h)) (fun _ => ?_)) | (refine And.intro (fun _ => ?_) (fun h => Bool.noConfusion ((bne_self_eq_false _).symm.trans h))) | (refine ⟨_, h1, ?_⟩) | (refine br_f hb ?_) | (refine br_f he2 ?_) | (refine ⟨false, ?_⟩) | (refine And.intro ⟨by omega, by omega, by omega, hroom⟩ ?_) | (refine And.intro ⟨room_p (by omega), a1, b1⟩ ?_) | (refine And.intro ⟨room_p (by omega), a2, b2⟩ ?_) | (refine And.intro ⟨room_p (by omega), a3, b4⟩ ?_) | (exact True.intro) | (refine And.intro (show eqT _ _ = true by kernel_rfl) ?_) | (refine And.intro rfl ?_) | (refine And.intro (And.intro (Nat.le_of_ble_eq_true rfl) rfl) ?_) | (refine And.intro (And.intro rfl rfl) ?_) | (refine And.intro (And.intro rfl (And.intro rfl rfl)) ?_) | (exact And.intro rfl (And.intro rfl rfl)) | (exact And.intro rfl rfl) | (refine br_lt ?_ ?_ <;> intro hBr <;> (first | (exfalso; omega) | (exfalso; contradiction) | (exfalso; exact hBr rfl) | skip)) | (refine br_lt_ ?_ ?_ <;> intro hBr <;> (first | (exfalso; omega) | (exfalso; contradiction) | (exfalso; exact hBr rfl) | skip)) | (refine br_le ?_ ?_ <;> intro hBr <;> (first | (exfalso; omega) | (exfalso; contradiction) | (exfalso; exact hBr rfl) | skip)) | (refine br_le_ ?_ ?_ <;> intro hBr <;> (first | (exfalso; omega) | (exfalso; contradiction) | (exfalso; exact hBr rfl) | skip)) | (refine br_eq ?_ ?_ <;> intro hBr <;> (first | (exfalso; omega) | (exfalso; contradiction) | (exfalso; exact hBr rfl) | skip)) | (refine br_eq_ ?_ ?_ <;> intro hBr <;> (first | (exfalso; omega) | (exfalso; contradiction) | (exfalso; exact hBr rfl) | skip)) | (refine br_seq ?_ ?_ <;> intro hBr <;> (first | (exfalso; omega) | (exfalso; contradiction) | (exfalso; exact hBr rfl) | skip)) | (refine br_seq_ ?_ ?_ <;> intro hBr <;> (first | (exfalso; omega) | (exfalso; contradiction) | (exfalso; exact hBr rfl) | skip)) | (refine br_not ?_) | (refine br_not_ ?_) | (refine br_and ?_) | (refine br_and_ ?_) | (refine And.intro (by omega) ?_) | (refine ⟨_, wrap_i64 (by omega), ?_⟩) | (refine ⟨_, wrap_u64 (by omega) (by omega), ?_⟩) | (refine ⟨_, wrap_u8 (by omega) (by omega), ?_⟩) | (refine ⟨_, wrap_u32 (by omega) (by omega), ?_⟩) | (refine ⟨_, wrap_u16 (by omega) (by omega), ?_⟩) | (refine ⟨_, rfl, ?_⟩) | (exact rfl)))
        exact hf
    · have hf := pput_fin l k v i n i (i : Int) R hn hple rfl (by omega) (hne fun h => absurd h hpn)
      have b4 := b3 (i : Int) i rfl (by omega)
      clear hR heq hne hplt hpat b3
      repeat' ((try conv => whnf) <;> (first | (refine Hold.mk ?_) | (refine And.intro (fun _ => ?_) (fun h => Bool.noConfusion h)) | (refine And.intro (fun h => Bool.noConfusion h) (fun _ => ?_)) | (refine And.intro (Nat.le_of_ble_eq_true rfl) ?_) | (refine And.intro (fun _ => ?_) (fun h => Bool.noConfusion ((beq_self_eq_true _).symm.trans h))) | (refine And.intro (fun h => Bool.noConfusion ((bne_self_eq_false _).symm.trans h)) (fun _ => ?_)) | (refine And.intro (fun h => Bool.noConfusion ((beq_self_eq_true _).symm.trans h)) (fun _ => ?_)) | (refine And.intro (fun _ => ?_) (fun h => Bool.noConfusion ((bne_self_eq_false _).symm.trans h))) | (refine ⟨false, ?_⟩) | (refine And.intro ⟨by omega, by omega, by omega, hroom⟩ ?_) | (refine And.intro ⟨room_p (by omega), a1, b1⟩ ?_) | (refine And.intro ⟨room_p (by omega), a2, b2⟩ ?_) | (refine And.intro ⟨room_p (by omega), a3, b4⟩ ?_) | (exact True.intro) | (refine And.intro (show eqT _ _ = true by kernel_rfl) ?_) | (refine And.intro rfl ?_) | (refine And.intro (And.intro (Nat.le_of_ble_eq_true rfl) rfl) ?_) | (refine And.intro (And.intro rfl rfl) ?_) | (refine And.intro (And.intro rfl (And.intro rfl rfl)) ?_) | (exact And.intro rfl (And.intro rfl rfl)) | (exact And.intro rfl rfl) | (refine br_lt ?_ ?_ <;> intro hBr <;> (first | (exfalso; omega) | (exfalso; contradiction) | (exfalso; exact hBr rfl) | skip)) | (refine br_lt_ ?_ ?_ <;> intro hBr <;> (first | (exfalso; omega) | (exfalso; contradiction) | (exfalso; exact hBr rfl) | skip)) | (refine br_le ?_ ?_ <;> intro hBr <;> (first | (exfalso; omega) | (exfalso; contradiction) | (exfalso; exact hBr rfl) | skip)) | (refine br_le_ ?_ ?_ <;> intro hBr <;> (first | (exfalso; omega) | (exfalso; contradiction) | (exfalso; exact hBr rfl) | skip)) | (refine br_eq ?_ ?_ <;> intro hBr <;> (first | (exfalso; omega) | (exfalso; contradiction) | (exfalso; exact hBr rfl) | skip)) | (refine br_eq_ ?_ ?_ <;> intro hBr <;> (first | (exfalso; omega) | (exfalso; contradiction) | (exfalso; exact hBr rfl) | skip)) | (refine br_seq ?_ ?_ <;> intro hBr <;> (first | (exfalso; omega) | (exfalso; contradiction) | (exfalso; exact hBr rfl) | skip)) | (refine br_seq_ ?_ ?_ <;> intro hBr <;> (first | (exfalso; omega) | (exfalso; contradiction) | (exfalso; exact hBr rfl) | skip)) | (refine br_not ?_) | (refine br_not_ ?_) | (refine br_and ?_) | (refine br_and_ ?_) | (refine And.intro (by omega) ?_) | (refine ⟨_, wrap_i64 (by omega), ?_⟩) | (refine ⟨_, wrap_u64 (by omega) (by omega), ?_⟩) | (refine ⟨_, wrap_u8 (by omega) (by omega), ?_⟩) | (refine ⟨_, wrap_u32 (by omega) (by omega), ?_⟩) | (refine ⟨_, wrap_u16 (by omega) (by omega), ?_⟩) | (refine ⟨_, rfl, ?_⟩) | (exact rfl)))
      exact hf
end Go.Proofs.Ytdicpbecdhaphaa.Av
