/- lru: the document's lists of items (for LruK): where a key is, all but one. No conditions but those on lengths. -/
import Derived.Test.YtdjdcpbakeahcaaLruVK
namespace Go.Proofs.Ytdjdcpbakeahcaa.Av.LruK
open Go Go.RowKit Pre
set_option linter.unusedVariables false
set_option linter.unusedSimpArgs false
set_option maxRecDepth 100000
set_option maxHeartbeats 1000000
abbrev itc (p : List UInt8 × VT) : List AV := [T p.1, T p.2.1, B p.2.2]
def itC (l : Xs) : List AV := l.flatMap itc
theorem itC_len (l : Xs) : (itC l).length = l.length * 3 := by
  induction l with
  | nil => rfl
  | cons o l ih => simp only [itC, itc, List.flatMap_cons, List.length_append, List.length_cons, List.length_nil] at ih ⊢; omega
theorem itC_app (l m : Xs) : itC (l ++ m) = itC l ++ itC m := by simp [itC]
theorem itC_at {l : Xs} {i : Nat} (h : i < l.length) : ∀ j v, (itc (l[i]))[j]? = some v → (itC l)[i * 3 + j]? = some v := by
  induction l generalizing i with
  | nil => simp at h
  | cons o l ih =>
    intro j v hv
    have e : itC (o :: l) = itc o ++ itC l := rfl
    cases i with
    | zero =>
      simp only [List.getElem_cons_zero] at hv
      have hj := (List.getElem?_eq_some_iff.1 hv).1
      rw [e, Nat.zero_mul, Nat.zero_add, List.getElem?_append_left hj]
      exact hv
    | succ i =>
      have := ih (i := i) (by simpa using h) j v (by simpa using hv)
      rw [e, List.getElem?_append_right (by simp; omega)]
      rw [← this]
      congr 1
      simp; omega
theorem hsI : sizeT Try.prog 120 = 3 := by kernel_rfl
theorem itW {l : Xs} {i : Nat} (h : i < l.length) : (itc (l[i])).length = sizeT Try.prog 120 ∧ ∀ j v, (itc (l[i]))[j]? = some v → (itC l)[mulS (i : Int).toNat (sizeT Try.prog 120) + j]? = some v := by
  rw [hsI, mulS_eq, Int.toNat_natCast]; exact ⟨rfl, itC_at h⟩
theorem itK {l : Xs} {i : Nat} (h : i < l.length) : (itC l)[mulS (i : Int).toNat (sizeT Try.prog 120) + 0]? = some (T (l[i]).1) := (itW h).2 0 _ rfl
theorem one_it (l : Xs) : ∀ v ∈ itC l, one1 v = true := by
  intro v hv
  obtain ⟨p, _, hp⟩ := List.mem_flatMap.1 hv
  simp only [itc, List.mem_cons, List.not_mem_nil, or_false] at hp
  rcases hp with rfl | rfl | rfl <;> rfl
theorem room_i {k : Nat} (hk : k ≤ 1000000000) : room k (bytesT Try.prog 120) := by
  rw [show bytesT Try.prog 120 = 40 by kernel_rfl]; unfold room; omega
theorem pre_it (p : List UInt8 × VT) : (itc p).length = 1 * sizeT Try.prog 120 ∧ ∀ u ∈ itc p, one1 u = true := by
  rw [hsI]
  refine ⟨rfl, fun u hu => one_it [p] u ?_⟩
  show u ∈ itc p ++ []
  rw [List.append_nil]; exact hu
theorem itC_take (l : Xs) (i : Nat) : (itC l).take (i * 3) = itC (l.take i) := by
  by_cases h : i ≤ l.length
  · have e := itC_app (l.take i) (l.drop i)
    rw [List.take_append_drop] at e
    have h1 := itC_len (l.take i)
    rw [List.length_take, Nat.min_eq_left h] at h1
    rw [e, List.take_left' h1]
  · rw [List.take_of_length_le (by rw [itC_len]; omega), List.take_of_length_le (by omega)]
theorem itC_drop (l : Xs) (i : Nat) : (itC l).drop (i * 3) = itC (l.drop i) := by
  by_cases h : i ≤ l.length
  · have e := itC_app (l.take i) (l.drop i)
    rw [List.take_append_drop] at e
    have h1 := itC_len (l.take i)
    rw [List.length_take, Nat.min_eq_left h] at h1
    rw [e, List.drop_left' h1]
  · rw [List.drop_of_length_le (by rw [itC_len]; omega), List.drop_of_length_le (by omega)]; rfl
theorem take_it (l : Xs) (i : Nat) : takeL (itC l) (mulS (0 : Int).toNat (sizeT Try.prog 120)) (mulS ((i : Int).toNat - (0 : Int).toNat) (sizeT Try.prog 120)) = itC (l.take i) := by
  rw [hsI, mulS_eq, mulS_eq]
  simp only [Int.toNat_natCast, Int.toNat_zero, Nat.zero_mul, Nat.sub_zero, takeL, List.drop_zero]
  exact itC_take l i
theorem drop_it (l : Xs) (i : Int) (n : Nat) (hi : 0 ≤ i) (hn : n = l.length) (hl : i ≤ l.length) : takeL (itC l) (mulS i.toNat (sizeT Try.prog 120)) (mulS ((n : Int).toNat - i.toNat) (sizeT Try.prog 120)) = itC (l.drop i.toNat) := by
  rw [hsI, mulS_eq, mulS_eq]
  simp only [Int.toNat_natCast, takeL]
  rw [itC_drop, List.take_of_length_le (by rw [itC_len, List.length_drop]; omega)]
/-! ### where a key is -/
theorem find_yes {a b : Xs} {k : List UInt8} {v : VT} (ha : ∀ y ∈ a, y.1 ≠ k) {xs : Xs} (hx : xs = a ++ (k, v) :: b) (hn : xs.length ≤ 1000) : SP 91 [.vs xs.length (itC xs), T k] (Z a.length) := by
  have hal : a.length < xs.length := by rw [hx]; simp
  have hxa : xs[a.length].1 = k := by subst hx; simp
  have hxi : ∀ i (h : i < xs.length), i < a.length → xs[i].1 ≠ k := fun i h hi => by
    have : xs[i] = a[i] := by subst hx; rw [List.getElem_append_left hi]
    rw [this]; exact ha _ (List.getElem_mem hi)
  clear hx ha
  refine S_ Try.func91 (by kernel_rfl) rfl (Nat.le_of_ble_eq_true rfl) ?_
  show avc Try.prog SP _ _ _ _ _ _
  dsimp only [avc, startS, Array.toList, Try.f91]
  repeat' ((try conv => whnf) <;> (first | (refine Hold.mk ?_) | (refine And.intro (fun _ => ?_) (fun h => Bool.noConfusion h)) | (refine And.intro (fun h => Bool.noConfusion h) (fun _ => ?_)) | (refine And.intro (Nat.le_of_ble_eq_true rfl) ?_) | (refine And.intro (fun _ => ?_) (fun h => Bool.noConfusion ((beq_self_eq_true _).symm.trans h))) | (refine And.intro (fun h => Bool.noConfusion ((bne_self_eq_false _).symm.trans h)) (fun _ => ?_)) | (refine And.intro (fun h => Bool.noConfusion ((beq_self_eq_true _).symm.trans h)) (fun _ => ?_)) | (refine And.intro (fun _ => ?_) (fun h => Bool.noConfusion ((bne_self_eq_false _).symm.trans h))) | (refine And.intro (show inR _ from ⟨by omega, by omega⟩) ?_) | (exact True.intro) | (refine And.intro (show eqT _ _ = true by kernel_rfl) ?_) | (refine And.intro rfl ?_) | (refine And.intro (And.intro (Nat.le_of_ble_eq_true rfl) rfl) ?_) | (refine And.intro (And.intro rfl rfl) ?_) | (refine And.intro (And.intro rfl (And.intro rfl rfl)) ?_) | (exact And.intro rfl (And.intro rfl rfl)) | (exact And.intro rfl rfl) | (refine br_lt ?_ ?_ <;> intro hBr <;> (first | (exfalso; omega) | (exfalso; contradiction) | (exfalso; exact hBr rfl) | skip)) | (refine br_lt_ ?_ ?_ <;> intro hBr <;> (first | (exfalso; omega) | (exfalso; contradiction) | (exfalso; exact hBr rfl) | skip)) | (refine br_le ?_ ?_ <;> intro hBr <;> (first | (exfalso; omega) | (exfalso; contradiction) | (exfalso; exact hBr rfl) | skip)) | (refine br_le_ ?_ ?_ <;> intro hBr <;> (first | (exfalso; omega) | (exfalso; contradiction) | (exfalso; exact hBr rfl) | skip)) | (refine br_eq ?_ ?_ <;> intro hBr <;> (first | (exfalso; omega) | (exfalso; contradiction) | (exfalso; exact hBr rfl) | skip)) | (refine br_eq_ ?_ ?_ <;> intro hBr <;> (first | (exfalso; omega) | (exfalso; contradiction) | (exfalso; exact hBr rfl) | skip)) | (refine br_seq ?_ ?_ <;> intro hBr <;> (first | (exfalso; omega) | (exfalso; contradiction) | (exfalso; exact hBr rfl) | skip)) | (refine br_seq_ ?_ ?_ <;> intro hBr <;> (first | (exfalso; omega) | (exfalso; contradiction) | (exfalso; exact hBr rfl) | skip)) | (refine br_not ?_) | (refine br_not_ ?_) | (refine br_and ?_) | (refine br_and_ ?_) | (refine And.intro (by omega) ?_) | (refine ⟨_, wrap_i64 (by omega), ?_⟩) | (refine ⟨_, wrap_u64 (by omega) (by omega), ?_⟩) | (refine ⟨_, wrap_u8 (by omega) (by omega), ?_⟩) | (refine ⟨_, wrap_u32 (by omega) (by omega), ?_⟩) | (refine ⟨_, wrap_u16 (by omega) (by omega), ?_⟩) | (refine ⟨_, rfl, ?_⟩) | (exact rfl)))
  refine ⟨[5, 0, 1], [], fun vs bl => ∃ i : Nat, i ≤ a.length ∧ (vs = [Z i, .vs xs.length (itC xs), T k] ∧ bl = []), muI xs.length, ?_, ?_⟩
  · exact ⟨0, by omega, rfl, rfl⟩
  rintro vs bl ⟨i, hi, rfl, rfl⟩
  have hlt : i < xs.length := by omega
  have h1 := itK hlt
  have hdec : muI xs.length [Z ((i : Int) + 1)] [] < muI xs.length [Z i] [] := by show xs.length - ((i : Int) + 1).toNat < xs.length - (i : Int).toNat; omega
  by_cases hia : i < a.length
  · have hb : ((bs (xs[i]).1).toList == (bs k).toList) = false := by rw [bsl_, bsl_]; have := hxi i hlt hia; simpa using this
    repeat' ((try conv => whnf) <;> (first | (refine Hold.mk ?_) | (refine And.intro (fun _ => ?_) (fun h => Bool.noConfusion h)) | (refine And.intro (fun h => Bool.noConfusion h) (fun _ => ?_)) | (refine And.intro (Nat.le_of_ble_eq_true rfl) ?_) | (refine And.intro (fun _ => ?_) (fun h => Bool.noConfusion ((beq_self_eq_true _).symm.trans h))) | (refine And.intro (fun h => Bool.noConfusion ((bne_self_eq_false _).symm.trans h)) (fun _ => ?_)) | (refine And.intro (fun h => Bool.noConfusion ((beq_self_eq_true _).symm.trans h)) (fun _ => ?_)) | (refine And.intro (fun _ => ?_) (fun h => Bool.noConfusion ((bne_self_eq_false _).symm.trans h))) | (refine And.intro (show inR _ from ⟨by omega, by omega⟩) ?_) | (refine ⟨_, h1, ?_⟩) | (refine br_f hb ?_) | (exact True.intro) | (refine And.intro (show eqT _ _ = true by kernel_rfl) ?_) | (refine And.intro rfl ?_) | (refine And.intro (And.intro (Nat.le_of_ble_eq_true rfl) rfl) ?_) | (refine And.intro (And.intro rfl rfl) ?_) | (refine And.intro (And.intro rfl (And.intro rfl rfl)) ?_) | (exact And.intro rfl (And.intro rfl rfl)) | (exact And.intro rfl rfl) | (refine br_lt ?_ ?_ <;> intro hBr <;> (first | (exfalso; omega) | (exfalso; contradiction) | (exfalso; exact hBr rfl) | skip)) | (refine br_lt_ ?_ ?_ <;> intro hBr <;> (first | (exfalso; omega) | (exfalso; contradiction) | (exfalso; exact hBr rfl) | skip)) | (refine br_le ?_ ?_ <;> intro hBr <;> (first | (exfalso; omega) | (exfalso; contradiction) | (exfalso; exact hBr rfl) | skip)) | (refine br_le_ ?_ ?_ <;> intro hBr <;> (first | (exfalso; omega) | (exfalso; contradiction) | (exfalso; exact hBr rfl) | skip)) | (refine br_eq ?_ ?_ <;> intro hBr <;> (first | (exfalso; omega) | (exfalso; contradiction) | (exfalso; exact hBr rfl) | skip)) | (refine br_eq_ ?_ ?_ <;> intro hBr <;> (first | (exfalso; omega) | (exfalso; contradiction) | (exfalso; exact hBr rfl) | skip)) | (refine br_seq ?_ ?_ <;> intro hBr <;> (first | (exfalso; omega) | (exfalso; contradiction) | (exfalso; exact hBr rfl) | skip)) | (refine br_seq_ ?_ ?_ <;> intro hBr <;> (first | (exfalso; omega) | (exfalso; contradiction) | (exfalso; exact hBr rfl) | skip)) | (refine br_not ?_) | (refine br_not_ ?_) | (refine br_and ?_) | (refine br_and_ ?_) | (refine And.intro (by omega) ?_) | (refine ⟨_, wrap_i64 (by omega), ?_⟩) | (refine ⟨_, wrap_u64 (by omega) (by omega), ?_⟩) | (refine ⟨_, wrap_u8 (by omega) (by omega), ?_⟩) | (refine ⟨_, wrap_u32 (by omega) (by omega), ?_⟩) | (refine ⟨_, wrap_u16 (by omega) (by omega), ?_⟩) | (refine ⟨_, rfl, ?_⟩) | (exact rfl)))
    exact ⟨⟨i + 1, by omega, rfl, rfl⟩, hdec⟩
  · obtain rfl : i = a.length := by omega
    have hb : ((bs (xs[a.length]).1).toList == (bs k).toList) = true := by rw [bsl_, bsl_, hxa]; simp
    repeat' ((try conv => whnf) <;> (first | (refine Hold.mk ?_) | (refine And.intro (fun _ => ?_) (fun h => Bool.noConfusion h)) | (refine And.intro (fun h => Bool.noConfusion h) (fun _ => ?_)) | (refine And.intro (Nat.le_of_ble_eq_true rfl) ?_) | (refine And.intro (fun _ => ?_) (fun h => Bool.noConfusion ((beq_self_eq_true _).symm.trans h))) | (refine And.intro (fun h => Bool.noConfusion ((bne_self_eq_false _).symm.trans h)) (fun _ => ?_)) | (refine And.intro (fun h => Bool.noConfusion ((beq_self_eq_true _).symm.trans h)) (fun _ => ?_)) | (refine And.intro (fun _ => ?_) (fun h => Bool.noConfusion ((bne_self_eq_false _).symm.trans h))) | (refine And.intro (show inR _ from ⟨by omega, by omega⟩) ?_) | (refine ⟨_, h1, ?_⟩) | (refine br_t hb ?_) | (exact True.intro) | (refine And.intro (show eqT _ _ = true by kernel_rfl) ?_) | (refine And.intro rfl ?_) | (refine And.intro (And.intro (Nat.le_of_ble_eq_true rfl) rfl) ?_) | (refine And.intro (And.intro rfl rfl) ?_) | (refine And.intro (And.intro rfl (And.intro rfl rfl)) ?_) | (exact And.intro rfl (And.intro rfl rfl)) | (exact And.intro rfl rfl) | (refine br_lt ?_ ?_ <;> intro hBr <;> (first | (exfalso; omega) | (exfalso; contradiction) | (exfalso; exact hBr rfl) | skip)) | (refine br_lt_ ?_ ?_ <;> intro hBr <;> (first | (exfalso; omega) | (exfalso; contradiction) | (exfalso; exact hBr rfl) | skip)) | (refine br_le ?_ ?_ <;> intro hBr <;> (first | (exfalso; omega) | (exfalso; contradiction) | (exfalso; exact hBr rfl) | skip)) | (refine br_le_ ?_ ?_ <;> intro hBr <;> (first | (exfalso; omega) | (exfalso; contradiction) | (exfalso; exact hBr rfl) | skip)) | (refine br_eq ?_ ?_ <;> intro hBr <;> (first | (exfalso; omega) | (exfalso; contradiction) | (exfalso; exact hBr rfl) | skip)) | (refine br_eq_ ?_ ?_ <;> intro hBr <;> (first | (exfalso; omega) | (exfalso; contradiction) | (exfalso; exact hBr rfl) | skip)) | (refine br_seq ?_ ?_ <;> intro hBr <;> (first | (exfalso; omega) | (exfalso; contradiction) | (exfalso; exact hBr rfl) | skip)) | (refine br_seq_ ?_ ?_ <;> intro hBr <;> (first | (exfalso; omega) | (exfalso; contradiction) | (exfalso; exact hBr rfl) | skip)) | (refine br_not ?_) | (refine br_not_ ?_) | (refine br_and ?_) | (refine br_and_ ?_) | (refine And.intro (by omega) ?_) | (refine ⟨_, wrap_i64 (by omega), ?_⟩) | (refine ⟨_, wrap_u64 (by omega) (by omega), ?_⟩) | (refine ⟨_, wrap_u8 (by omega) (by omega), ?_⟩) | (refine ⟨_, wrap_u32 (by omega) (by omega), ?_⟩) | (refine ⟨_, wrap_u16 (by omega) (by omega), ?_⟩) | (refine ⟨_, rfl, ?_⟩) | (exact rfl)))
theorem find_no {xs : Xs} {k : List UInt8} (ha : ∀ y ∈ xs, y.1 ≠ k) (hn : xs.length ≤ 1000) : SP 91 [.vs xs.length (itC xs), T k] (Z (-1)) := by
  refine S_ Try.func91 (by kernel_rfl) rfl (Nat.le_of_ble_eq_true rfl) ?_
  show avc Try.prog SP _ _ _ _ _ _
  dsimp only [avc, startS, Array.toList, Try.f91]
  repeat' ((try conv => whnf) <;> (first | (refine Hold.mk ?_) | (refine And.intro (fun _ => ?_) (fun h => Bool.noConfusion h)) | (refine And.intro (fun h => Bool.noConfusion h) (fun _ => ?_)) | (refine And.intro (Nat.le_of_ble_eq_true rfl) ?_) | (refine And.intro (fun _ => ?_) (fun h => Bool.noConfusion ((beq_self_eq_true _).symm.trans h))) | (refine And.intro (fun h => Bool.noConfusion ((bne_self_eq_false _).symm.trans h)) (fun _ => ?_)) | (refine And.intro (fun h => Bool.noConfusion ((beq_self_eq_true _).symm.trans h)) (fun _ => ?_)) | (refine And.intro (fun _ => ?_) (fun h => Bool.noConfusion ((bne_self_eq_false _).symm.trans h))) | (refine And.intro (show inR _ from ⟨by omega, by omega⟩) ?_) | (exact True.intro) | (refine And.intro (show eqT _ _ = true by kernel_rfl) ?_) | (refine And.intro rfl ?_) | (refine And.intro (And.intro (Nat.le_of_ble_eq_true rfl) rfl) ?_) | (refine And.intro (And.intro rfl rfl) ?_) | (refine And.intro (And.intro rfl (And.intro rfl rfl)) ?_) | (exact And.intro rfl (And.intro rfl rfl)) | (exact And.intro rfl rfl) | (refine br_lt ?_ ?_ <;> intro hBr <;> (first | (exfalso; omega) | (exfalso; contradiction) | (exfalso; exact hBr rfl) | skip)) | (refine br_lt_ ?_ ?_ <;> intro hBr <;> (first | (exfalso; omega) | (exfalso; contradiction) | (exfalso; exact hBr rfl) | skip)) | (refine br_le ?_ ?_ <;> intro hBr <;> (first | (exfalso; omega) | (exfalso; contradiction) | (exfalso; exact hBr rfl) | skip)) | (refine br_le_ ?_ ?_ <;> intro hBr <;> (first | (exfalso; omega) | (exfalso; contradiction) | (exfalso; exact hBr rfl) | skip)) | (refine br_eq ?_ ?_ <;> intro hBr <;> (first | (exfalso; omega) | (exfalso; contradiction) | (exfalso; exact hBr rfl) | skip)) | (refine br_eq_ ?_ ?_ <;> intro hBr <;> (first | (exfalso; omega) | (exfalso; contradiction) | (exfalso; exact hBr rfl) | skip)) | (refine br_seq ?_ ?_ <;> intro hBr <;> (first | (exfalso; omega) | (exfalso; contradiction) | (exfalso; exact hBr rfl) | skip)) | (refine br_seq_ ?_ ?_ <;> intro hBr <;> (first | (exfalso; omega) | (exfalso; contradiction) | (exfalso; exact hBr rfl) | skip)) | (refine br_not ?_) | (refine br_not_ ?_) | (refine br_and ?_) | (refine br_and_ ?_) | (refine And.intro (by omega) ?_) | (refine ⟨_, wrap_i64 (by omega), ?_⟩) | (refine ⟨_, wrap_u64 (by omega) (by omega), ?_⟩) | (refine ⟨_, wrap_u8 (by omega) (by omega), ?_⟩) | (refine ⟨_, wrap_u32 (by omega) (by omega), ?_⟩) | (refine ⟨_, wrap_u16 (by omega) (by omega), ?_⟩) | (refine ⟨_, rfl, ?_⟩) | (exact rfl)))
  refine ⟨[5, 0, 1], [], fun vs bl => ∃ i : Nat, i ≤ xs.length ∧ (vs = [Z i, .vs xs.length (itC xs), T k] ∧ bl = []), muI xs.length, ?_, ?_⟩
  · exact ⟨0, by omega, rfl, rfl⟩
  rintro vs bl ⟨i, hi, rfl, rfl⟩
  by_cases hlt : i < xs.length
  · have h1 := itK hlt
    have hdec : muI xs.length [Z ((i : Int) + 1)] [] < muI xs.length [Z i] [] := by show xs.length - ((i : Int) + 1).toNat < xs.length - (i : Int).toNat; omega
    have hb : ((bs (xs[i]).1).toList == (bs k).toList) = false := by rw [bsl_, bsl_]; have := ha _ (List.getElem_mem hlt); simpa using this
    repeat' ((try conv => whnf) <;> (first | (refine Hold.mk ?_) | (refine And.intro (fun _ => ?_) (fun h => Bool.noConfusion h)) | (refine And.intro (fun h => Bool.noConfusion h) (fun _ => ?_)) | (refine And.intro (Nat.le_of_ble_eq_true rfl) ?_) | (refine And.intro (fun _ => ?_) (fun h => Bool.noConfusion ((beq_self_eq_true _).symm.trans h))) | (refine And.intro (fun h => Bool.noConfusion ((bne_self_eq_false _).symm.trans h)) (fun _ => ?_)) | (refine And.intro (fun h => Bool.noConfusion ((beq_self_eq_true _).symm.trans h)) (fun _ => ?_)) | (refine And.intro (fun _ => ?_) (fun h => Bool.noConfusion ((bne_self_eq_false _).symm.trans h))) | (refine And.intro (show inR _ from ⟨by omega, by omega⟩) ?_) | (refine ⟨_, h1, ?_⟩) | (refine br_f hb ?_) | (exact True.intro) | (refine And.intro (show eqT _ _ = true by kernel_rfl) ?_) | (refine And.intro rfl ?_) | (refine And.intro (And.intro (Nat.le_of_ble_eq_true rfl) rfl) ?_) | (refine And.intro (And.intro rfl rfl) ?_) | (refine And.intro (And.intro rfl (And.intro rfl rfl)) ?_) | (exact And.intro rfl (And.intro rfl rfl)) | (exact And.intro rfl rfl) | (refine br_lt ?_ ?_ <;> intro hBr <;> (first | (exfalso; omega) | (exfalso; contradiction) | (exfalso; exact hBr rfl) | skip)) | (refine br_lt_ ?_ ?_ <;> intro hBr <;> (first | (exfalso; omega) | (exfalso; contradiction) | (exfalso; exact hBr rfl) | skip)) | (refine br_le ?_ ?_ <;> intro hBr <;> (first | (exfalso; omega) | (exfalso; contradiction) | (exfalso; exact hBr rfl) | skip)) | (refine br_le_ ?_ ?_ <;> intro hBr <;> (first | (exfalso; omega) | (exfalso; contradiction) | (exfalso; exact hBr rfl) | skip)) | (refine br_eq ?_ ?_ <;> intro hBr <;> (first | (exfalso; omega) | (exfalso; contradiction) | (exfalso; exact hBr rfl) | skip)) | (refine br_eq_ ?_ ?_ <;> intro hBr <;> (first | (exfalso; omega) | (exfalso; contradiction) | (exfalso; exact hBr rfl) | skip)) | (refine br_seq ?_ ?_ <;> intro hBr <;> (first | (exfalso; omega) | (exfalso; contradiction) | (exfalso; exact hBr rfl) | skip)) | (refine br_seq_ ?_ ?_ <;> intro hBr <;> (first | (exfalso; omega) | (exfalso; contradiction) | (exfalso; exact hBr rfl) | skip)) | (refine br_not ?_) | (refine br_not_ ?_) | (refine br_and ?_) | (refine br_and_ ?_) | (refine And.intro (by omega) ?_) | (refine ⟨_, wrap_i64 (by omega), ?_⟩) | (refine ⟨_, wrap_u64 (by omega) (by omega), ?_⟩) | (refine ⟨_, wrap_u8 (by omega) (by omega), ?_⟩) | (refine ⟨_, wrap_u32 (by omega) (by omega), ?_⟩) | (refine ⟨_, wrap_u16 (by omega) (by omega), ?_⟩) | (refine ⟨_, rfl, ?_⟩) | (exact rfl)))
    exact ⟨⟨i + 1, by omega, rfl, rfl⟩, hdec⟩
  · obtain rfl : i = xs.length := by omega
    repeat' ((try conv => whnf) <;> (first | (refine Hold.mk ?_) | (refine And.intro (fun _ => ?_) (fun h => Bool.noConfusion h)) | (refine And.intro (fun h => Bool.noConfusion h) (fun _ => ?_)) | (refine And.intro (Nat.le_of_ble_eq_true rfl) ?_) | (refine And.intro (fun _ => ?_) (fun h => Bool.noConfusion ((beq_self_eq_true _).symm.trans h))) | (refine And.intro (fun h => Bool.noConfusion ((bne_self_eq_false _).symm.trans h)) (fun _ => ?_)) | (refine And.intro (fun h => Bool.noConfusion ((beq_self_eq_true _).symm.trans h)) (fun _ => ?_)) | (refine And.intro (fun _ => ?_) (fun h => Bool.noConfusion ((bne_self_eq_false _).symm.trans h))) | (refine And.intro (show inR _ from ⟨by omega, by omega⟩) ?_) | (exact True.intro) | (refine And.intro (show eqT _ _ = true by kernel_rfl) ?_) | (refine And.intro rfl ?_) | (refine And.intro (And.intro (Nat.le_of_ble_eq_true rfl) rfl) ?_) | (refine And.intro (And.intro rfl rfl) ?_) | (refine And.intro (And.intro rfl (And.intro rfl rfl)) ?_) | (exact And.intro rfl (And.intro rfl rfl)) | (exact And.intro rfl rfl) | (refine br_lt ?_ ?_ <;> intro hBr <;> (first | (exfalso; omega) | (exfalso; contradiction) | (exfalso; exact hBr rfl) | skip)) | (refine br_lt_ ?_ ?_ <;> intro hBr <;> (first | (exfalso; omega) | (exfalso; contradiction) | (exfalso; exact hBr rfl) | skip)) | (refine br_le ?_ ?_ <;> intro hBr <;> (first | (exfalso; omega) | (exfalso; contradiction) | (exfalso; exact hBr rfl) | skip)) | (refine br_le_ ?_ ?_ <;> intro hBr <;> (first | (exfalso; omega) | (exfalso; contradiction) | (exfalso; exact hBr rfl) | skip)) | (refine br_eq ?_ ?_ <;> intro hBr <;> (first | (exfalso; omega) | (exfalso; contradiction) | (exfalso; exact hBr rfl) | skip)) | (refine br_eq_ ?_ ?_ <;> intro hBr <;> (first | (exfalso; omega) | (exfalso; contradiction) | (exfalso; exact hBr rfl) | skip)) | (refine br_seq ?_ ?_ <;> intro hBr <;> (first | (exfalso; omega) | (exfalso; contradiction) | (exfalso; exact hBr rfl) | skip)) | (refine br_seq_ ?_ ?_ <;> intro hBr <;> (first | (exfalso; omega) | (exfalso; contradiction) | (exfalso; exact hBr rfl) | skip)) | (refine br_not ?_) | (refine br_not_ ?_) | (refine br_and ?_) | (refine br_and_ ?_) | (refine And.intro (by omega) ?_) | (refine ⟨_, wrap_i64 (by omega), ?_⟩) | (refine ⟨_, wrap_u64 (by omega) (by omega), ?_⟩) | (refine ⟨_, wrap_u8 (by omega) (by omega), ?_⟩) | (refine ⟨_, wrap_u32 (by omega) (by omega), ?_⟩) | (refine ⟨_, wrap_u16 (by omega) (by omega), ?_⟩) | (refine ⟨_, rfl, ?_⟩) | (exact rfl)))
theorem wo_no (n : Nat) (cs : List AV) : SP 90 [.vs n cs, Z (-1)] (.vs n cs) := by
  refine S_ Try.func90 (by kernel_rfl) rfl (Nat.le_of_ble_eq_true rfl) ?_
  show avc Try.prog SP _ _ _ _ _ _
  dsimp only [avc, startS, Array.toList, Try.f90]
  repeat' ((try conv => whnf) <;> (first | (refine Hold.mk ?_) | (refine And.intro (fun _ => ?_) (fun h => Bool.noConfusion h)) | (refine And.intro (fun h => Bool.noConfusion h) (fun _ => ?_)) | (refine And.intro (Nat.le_of_ble_eq_true rfl) ?_) | (refine And.intro (fun _ => ?_) (fun h => Bool.noConfusion ((beq_self_eq_true _).symm.trans h))) | (refine And.intro (fun h => Bool.noConfusion ((bne_self_eq_false _).symm.trans h)) (fun _ => ?_)) | (refine And.intro (fun h => Bool.noConfusion ((beq_self_eq_true _).symm.trans h)) (fun _ => ?_)) | (refine And.intro (fun _ => ?_) (fun h => Bool.noConfusion ((bne_self_eq_false _).symm.trans h))) | (refine And.intro (show inR _ from ⟨by omega, by omega⟩) ?_) | (refine ⟨[], [0, 0, 0, 6, 15, 0, 0, 64, 224, 511, 1023], Av.len_ok rfl (by kernel_rfl), ?_⟩) | (exact True.intro) | (refine And.intro (show eqT _ _ = true by kernel_rfl) ?_) | (refine And.intro rfl ?_) | (refine And.intro (And.intro (Nat.le_of_ble_eq_true rfl) rfl) ?_) | (refine And.intro (And.intro rfl rfl) ?_) | (refine And.intro (And.intro rfl (And.intro rfl rfl)) ?_) | (exact And.intro rfl (And.intro rfl rfl)) | (exact And.intro rfl rfl) | (refine br_lt ?_ ?_ <;> intro hBr <;> (first | (exfalso; omega) | (exfalso; contradiction) | (exfalso; exact hBr rfl) | skip)) | (refine br_lt_ ?_ ?_ <;> intro hBr <;> (first | (exfalso; omega) | (exfalso; contradiction) | (exfalso; exact hBr rfl) | skip)) | (refine br_le ?_ ?_ <;> intro hBr <;> (first | (exfalso; omega) | (exfalso; contradiction) | (exfalso; exact hBr rfl) | skip)) | (refine br_le_ ?_ ?_ <;> intro hBr <;> (first | (exfalso; omega) | (exfalso; contradiction) | (exfalso; exact hBr rfl) | skip)) | (refine br_eq ?_ ?_ <;> intro hBr <;> (first | (exfalso; omega) | (exfalso; contradiction) | (exfalso; exact hBr rfl) | skip)) | (refine br_eq_ ?_ ?_ <;> intro hBr <;> (first | (exfalso; omega) | (exfalso; contradiction) | (exfalso; exact hBr rfl) | skip)) | (refine br_seq ?_ ?_ <;> intro hBr <;> (first | (exfalso; omega) | (exfalso; contradiction) | (exfalso; exact hBr rfl) | skip)) | (refine br_seq_ ?_ ?_ <;> intro hBr <;> (first | (exfalso; omega) | (exfalso; contradiction) | (exfalso; exact hBr rfl) | skip)) | (refine br_not ?_) | (refine br_not_ ?_) | (refine br_and ?_) | (refine br_and_ ?_) | (refine And.intro (by omega) ?_) | (refine ⟨_, wrap_i64 (by omega), ?_⟩) | (refine ⟨_, wrap_u64 (by omega) (by omega), ?_⟩) | (refine ⟨_, wrap_u8 (by omega) (by omega), ?_⟩) | (refine ⟨_, wrap_u32 (by omega) (by omega), ?_⟩) | (refine ⟨_, wrap_u16 (by omega) (by omega), ?_⟩) | (refine ⟨_, rfl, ?_⟩) | (exact rfl)))
theorem wo_yes {xs : Xs} {i : Nat} (hi : i < xs.length) (hn : xs.length ≤ 1000) {R : Xs} (hR : R = xs.take i ++ xs.drop (i + 1)) : SP 90 [.vs xs.length (itC xs), Z i] (.vs R.length (itC R)) := by
  have t1 := take_it xs i
  have t2 := drop_it xs ((i : Int) + 1) xs.length (by omega) rfl (by omega)
  have hcl : xs.length * sizeT Try.prog 120 ≤ (itC xs).length := by rw [itC_len, hsI]; omega
  have b1 : (0 : Int) ≤ 0 ∧ (0 : Int) ≤ (i : Int) ∧ (i : Int) ≤ (xs.length : Nat) ∧ xs.length * sizeT Try.prog 120 ≤ (itC xs).length := ⟨by omega, by omega, by omega, hcl⟩
  have b2 : (0 : Int) ≤ (i : Int) + 1 ∧ (i : Int) + 1 ≤ (xs.length : Nat) ∧ ((xs.length : Nat) : Int) ≤ (xs.length : Nat) ∧ xs.length * sizeT Try.prog 120 ≤ (itC xs).length := ⟨by omega, by omega, by omega, hcl⟩
  have l1 : (xs.take i).length = i := by rw [List.length_take]; omega
  have l2 : (xs.drop ((i : Int) + 1).toNat).length = xs.length - (i + 1) := by rw [List.length_drop, show ((i : Int) + 1).toNat = i + 1 by omega]
  have e : AV.vs R.length (itC R) = AV.vs (0 + ((i : Int).toNat - (0 : Int).toNat) + ((xs.length : Int).toNat - ((i : Int) + 1).toNat)) ([] ++ takeL (itC xs) (mulS (0 : Int).toNat (sizeT Try.prog 120)) (mulS ((i : Int).toNat - (0 : Int).toNat) (sizeT Try.prog 120)) ++ takeL (itC xs) (mulS ((i : Int) + 1).toNat (sizeT Try.prog 120)) (mulS ((xs.length : Int).toNat - ((i : Int) + 1).toNat) (sizeT Try.prog 120))) := by
    rw [t1, t2, hR, itC_app, List.nil_append, show ((i : Int) + 1).toNat = i + 1 by omega]
    congr 1
    rw [List.length_append, l1, List.length_drop]
    simp only [Int.toNat_natCast, Int.toNat_zero]; omega
  have p1 : room (0 + ((i : Int).toNat - (0 : Int).toNat)) (bytesT Try.prog 120) ∧ ([] : List AV).length = 0 * sizeT Try.prog 120 ∧ (takeL (itC xs) (mulS (0 : Int).toNat (sizeT Try.prog 120)) (mulS ((i : Int).toNat - (0 : Int).toNat) (sizeT Try.prog 120))).length = ((i : Int).toNat - (0 : Int).toNat) * sizeT Try.prog 120 ∧ ∀ v ∈ takeL (itC xs) (mulS (0 : Int).toNat (sizeT Try.prog 120)) (mulS ((i : Int).toNat - (0 : Int).toNat) (sizeT Try.prog 120)), one1 v = true :=
    ⟨room_i (by rw [Int.toNat_natCast]; show 0 + (i - 0) ≤ _; omega), rfl, by rw [t1, itC_len, l1, hsI, Int.toNat_natCast]; rfl, by rw [t1]; exact one_it _⟩
  have p2 : room (0 + ((i : Int).toNat - (0 : Int).toNat) + ((xs.length : Int).toNat - ((i : Int) + 1).toNat)) (bytesT Try.prog 120) ∧ ([] ++ takeL (itC xs) (mulS (0 : Int).toNat (sizeT Try.prog 120)) (mulS ((i : Int).toNat - (0 : Int).toNat) (sizeT Try.prog 120))).length = (0 + ((i : Int).toNat - (0 : Int).toNat)) * sizeT Try.prog 120 ∧
      (takeL (itC xs) (mulS ((i : Int) + 1).toNat (sizeT Try.prog 120)) (mulS ((xs.length : Int).toNat - ((i : Int) + 1).toNat) (sizeT Try.prog 120))).length = ((xs.length : Int).toNat - ((i : Int) + 1).toNat) * sizeT Try.prog 120 ∧ ∀ v ∈ takeL (itC xs) (mulS ((i : Int) + 1).toNat (sizeT Try.prog 120)) (mulS ((xs.length : Int).toNat - ((i : Int) + 1).toNat) (sizeT Try.prog 120)), one1 v = true :=
    ⟨room_i (by simp only [Int.toNat_natCast, Int.toNat_zero]; omega), by rw [t1, List.nil_append, itC_len, l1, hsI, Int.toNat_natCast, Nat.zero_add]; rfl, by rw [t2, itC_len, l2, hsI, Int.toNat_natCast, show ((i : Int) + 1).toNat = i + 1 by omega], by rw [t2]; exact one_it _⟩
  rw [e]
  clear e t1 t2 l1 l2 hcl hR
  refine S_ Try.func90 (by kernel_rfl) rfl (Nat.le_of_ble_eq_true rfl) ?_
  show avc Try.prog SP _ _ _ _ _ _
  dsimp only [avc, startS, Array.toList, Try.f90]
  repeat' ((try conv => whnf) <;> (first | (refine Hold.mk ?_) | (refine And.intro (fun _ => ?_) (fun h => Bool.noConfusion h)) | (refine And.intro (fun h => Bool.noConfusion h) (fun _ => ?_)) | (refine And.intro (Nat.le_of_ble_eq_true rfl) ?_) | (refine And.intro (fun _ => ?_) (fun h => Bool.noConfusion ((beq_self_eq_true _).symm.trans h))) | (refine And.intro (fun h => Bool.noConfusion ((bne_self_eq_false _).symm.trans h)) (fun _ => ?_)) | (refine And.intro (fun h => Bool.noConfusion ((beq_self_eq_true _).symm.trans h)) (fun _ => ?_)) | (refine And.intro (fun _ => ?_) (fun h => Bool.noConfusion ((bne_self_eq_false _).symm.trans h))) | (refine And.intro (show inR _ from ⟨by omega, by omega⟩) ?_) | (refine ⟨true, ?_⟩) | (refine And.intro b1 ?_) | (refine And.intro b2 ?_) | (refine And.intro p1 ?_) | (refine And.intro p2 ?_) | (refine ⟨[], [0, 0, 0, 6, 15, 0, 0, 64, 224, 511, 1023], Av.len_ok rfl (by kernel_rfl), ?_⟩) | (exact True.intro) | (refine And.intro (show eqT _ _ = true by kernel_rfl) ?_) | (refine And.intro rfl ?_) | (refine And.intro (And.intro (Nat.le_of_ble_eq_true rfl) rfl) ?_) | (refine And.intro (And.intro rfl rfl) ?_) | (refine And.intro (And.intro rfl (And.intro rfl rfl)) ?_) | (exact And.intro rfl (And.intro rfl rfl)) | (exact And.intro rfl rfl) | (refine br_lt ?_ ?_ <;> intro hBr <;> (first | (exfalso; omega) | (exfalso; contradiction) | (exfalso; exact hBr rfl) | skip)) | (refine br_lt_ ?_ ?_ <;> intro hBr <;> (first | (exfalso; omega) | (exfalso; contradiction) | (exfalso; exact hBr rfl) | skip)) | (refine br_le ?_ ?_ <;> intro hBr <;> (first | (exfalso; omega) | (exfalso; contradiction) | (exfalso; exact hBr rfl) | skip)) | (refine br_le_ ?_ ?_ <;> intro hBr <;> (first | (exfalso; omega) | (exfalso; contradiction) | (exfalso; exact hBr rfl) | skip)) | (refine br_eq ?_ ?_ <;> intro hBr <;> (first | (exfalso; omega) | (exfalso; contradiction) | (exfalso; exact hBr rfl) | skip)) | (refine br_eq_ ?_ ?_ <;> intro hBr <;> (first | (exfalso; omega) | (exfalso; contradiction) | (exfalso; exact hBr rfl) | skip)) | (refine br_seq ?_ ?_ <;> intro hBr <;> (first | (exfalso; omega) | (exfalso; contradiction) | (exfalso; exact hBr rfl) | skip)) | (refine br_seq_ ?_ ?_ <;> intro hBr <;> (first | (exfalso; omega) | (exfalso; contradiction) | (exfalso; exact hBr rfl) | skip)) | (refine br_not ?_) | (refine br_not_ ?_) | (refine br_and ?_) | (refine br_and_ ?_) | (refine And.intro (by omega) ?_) | (refine ⟨_, wrap_i64 (by omega), ?_⟩) | (refine ⟨_, wrap_u64 (by omega) (by omega), ?_⟩) | (refine ⟨_, wrap_u8 (by omega) (by omega), ?_⟩) | (refine ⟨_, wrap_u32 (by omega) (by omega), ?_⟩) | (refine ⟨_, wrap_u16 (by omega) (by omega), ?_⟩) | (refine ⟨_, rfl, ?_⟩) | (exact rfl)))
/-- both at once -/
theorem find_wo {xs : Xs} (k : List UInt8) (hd : NdX xs) (hn : xs.length ≤ 1000) : ∃ i : Int, SP 91 [.vs xs.length (itC xs), T k] (Z i) ∧ SP 90 [.vs xs.length (itC xs), Z i] (.vs (wo xs k).length (itC (wo xs k))) ∧
    ((has xs k = false ∧ i = -1) ∨ (has xs k = true ∧ ∃ (j : Nat) (h : j < xs.length), i = j ∧ xs[j] = (k, val xs k))) := by
  cases hh : has xs k with
  | false =>
    have e := wo_none hh
    refine ⟨-1, find_no (not_has hh) hn, ?_, .inl ⟨rfl, rfl⟩⟩
    rw [e]
    exact wo_no _ _
  | true =>
    obtain ⟨a, b, e1, e2, h1, h2⟩ := has_split hd hh
    have hal : a.length < xs.length := by rw [e1]; simp
    refine ⟨a.length, find_yes h1 e1 hn, wo_yes hal hn ?_, .inr ⟨rfl, a.length, hal, rfl, ?_⟩⟩
    · rw [e2]
      have e3 : xs.take a.length = a := by rw [e1]; simp
      have e4 : xs.drop (a.length + 1) = b := by rw [e1]; simp
      rw [e3, e4]
    · have : ∀ (ys : Xs) (h : a.length < ys.length), ys = a ++ (k, val xs k) :: b → ys[a.length] = (k, val xs k) := by
        rintro ys h rfl; simp
      exact this xs hal e1
end Go.Proofs.Ytdjdcpbakeahcaa.Av.LruK
