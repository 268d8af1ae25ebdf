/- tree: the reference's lists of pairs, walked. No conditions but that sizes stay far below what memory holds. -/
import Derived.Test.YtbaedepmogkkeaaGreatTree7
namespace Go.Proofs.YtbaedepmogkkeaaGreat.Av
set_option maxHeartbeats 1000000
open Go Go.RowKit Tre
set_option linter.unusedVariables false
set_option linter.unusedSimpArgs false
set_option maxRecDepth 100000

def prC (l : List Pr) : List AV := l.flatMap fun p => [T p.1, T p.2]
theorem prC_len (l : List Pr) : (prC l).length = l.length * 2 := by
  induction l with
  | nil => rfl
  | cons o l ih => simp only [prC, List.flatMap_cons, List.length_append, List.length_cons, List.length_nil] at ih ⊢; omega
theorem prC_app (l m : List Pr) : prC (l ++ m) = prC l ++ prC m := by simp [prC]
theorem prC_at {l : List Pr} {i : Nat} (h : i < l.length) : ∀ j v, ([T (l[i]).1, T (l[i]).2] : List AV)[j]? = some v → (prC l)[i * 2 + j]? = some v := by
  induction l generalizing i with
  | nil => simp at h
  | cons o l ih =>
    intro j v hv
    have e : prC (o :: l) = [T o.1, T o.2] ++ prC l := rfl
    cases i with
    | zero =>
      simp only [List.getElem_cons_zero] at hv
      have hj := (List.getElem?_eq_some_iff.1 hv).1
      rw [e, Nat.zero_mul, Nat.zero_add, List.getElem?_append_left hj]
      exact hv
    | succ i =>
      have := ih (i := i) (by simpa using h) j v (by simpa using hv)
      rw [e, List.getElem?_append_right (by simp; omega)]
      rw [← this]
      congr 1
      simp; omega
theorem hsP : sizeT Tryz.prog 212 = 2 := by kernel_rfl
theorem prK {l : List Pr} {i : Nat} (h : i < l.length) : (prC l)[mulS (i : Int).toNat (sizeT Tryz.prog 212) + 0]? = some (T (l[i]).1) := by
  rw [hsP, mulS_eq, Int.toNat_natCast]; exact prC_at h 0 _ rfl
theorem prV {l : List Pr} {i : Nat} (h : i < l.length) : (prC l)[mulS (i : Int).toNat (sizeT Tryz.prog 212) + 1]? = some (T (l[i]).2) := by
  rw [hsP, mulS_eq, Int.toNat_natCast]; exact prC_at h 1 _ rfl
theorem prW {l : List Pr} {i : Nat} (h : i < l.length) : ([T (l[i]).1, T (l[i]).2] : List AV).length = sizeT Tryz.prog 212 ∧ ∀ j v, ([T (l[i]).1, T (l[i]).2] : List AV)[j]? = some v → (prC l)[mulS (i : Int).toNat (sizeT Tryz.prog 212) + j]? = some v := by
  rw [hsP, mulS_eq, Int.toNat_natCast]; exact ⟨rfl, prC_at h⟩
theorem one_pr (l : List Pr) : ∀ v ∈ prC l, one1 v = true := by
  intro v hv
  obtain ⟨p, _, hp⟩ := List.mem_flatMap.1 hv
  rcases List.mem_cons.1 hp with rfl | hp
  · rfl
  · rw [List.mem_singleton] at hp; subst hp; rfl
theorem room_p {k : Nat} (hk : k ≤ 1000000000000) : room k (bytesT Tryz.prog 212) := by
  rw [show bytesT Tryz.prog 212 = 32 by kernel_rfl]; unfold room; omega
theorem pre2 (k v : Key) : ([T k, T v] : List AV).length = 1 * sizeT Tryz.prog 212 ∧ ∀ u ∈ ([T k, T v] : List AV), one1 u = true := by
  rw [hsP]
  exact ⟨rfl, one_pr [(k, v)]⟩
theorem prC_take (l : List Pr) (i : Nat) : takeL (prC l) (mulS (0 : Int).toNat (sizeT Tryz.prog 212)) (mulS ((i : Int).toNat - (0 : Int).toNat) (sizeT Tryz.prog 212)) = prC (l.take i) := by
  rw [hsP, mulS_eq, mulS_eq]
  simp only [Int.toNat_natCast, Int.toNat_zero, Nat.zero_mul, Nat.sub_zero, takeL, List.drop_zero]
  induction l generalizing i with
  | nil => simp [prC]
  | cons o l ih =>
    cases i with
    | zero => simp [prC]
    | succ i =>
      have e : ∀ m, prC (o :: m) = T o.1 :: T o.2 :: prC m := fun m => rfl
      rw [List.take_succ_cons, e, e, ← ih i]
      rw [show (i + 1) * 2 = i * 2 + 1 + 1 by omega, List.take_succ_cons, List.take_succ_cons]
theorem prC_drop (l : List Pr) (i n : Nat) (hn : l.length = n) (hi : i ≤ n) : takeL (prC l) (mulS (i : Int).toNat (sizeT Tryz.prog 212)) (mulS ((n : Int).toNat - (i : Int).toNat) (sizeT Tryz.prog 212)) = prC (l.drop i) := by
  have e := prC_app (l.take i) (l.drop i)
  rw [List.take_append_drop] at e
  have h1 := prC_len (l.take i)
  have h2 := prC_len (l.drop i)
  rw [List.length_take] at h1
  rw [List.length_drop] at h2
  rw [hsP, mulS_eq, mulS_eq]
  simp only [Int.toNat_natCast, takeL]
  rw [e, List.drop_left' (by omega), List.take_of_length_le (by omega)]
theorem begins_ok (x p : Key) (hx : x.length ≤ 9223372036854775807) (hp : p.length ≤ 9223372036854775807) : SP 163 [T x, T p] (B (begins p x)) := by
  have s1 := bs_size x
  have s2 := bs_size p
  by_cases h : p.length ≤ x.length
  · have e : (((bs x).extract (0 : Int).toNat ((bs p).size : Int).toNat).toList == (bs p).toList) = begins p x := by
      rw [bs_cut, bsl_, bsl_, ← begins_take h, bs_size]
      simp
    rw [← e]
    refine S_ Tryz.func163 (by kernel_rfl) rfl (Nat.le_of_ble_eq_true rfl) ?_
    show avc Tryz.prog SP _ _ _ _ _ _
    dsimp only [avc, startS, Array.toList, Tryz.f163]
    exact Av.W
  · have e : begins p x = false := by
      unfold begins
      rw [Bool.eq_false_iff]
      intro hb
      have := (List.isPrefixOf_iff_prefix.1 hb).length_le
      omega
    rw [e]
    refine S_ Tryz.func163 (by kernel_rfl) rfl (Nat.le_of_ble_eq_true rfl) ?_
    show avc Tryz.prog SP _ _ _ _ _ _
    dsimp only [avc, startS, Array.toList, Tryz.f163]
    exact Av.W
/-- a list whose texts are not too long -/
def PrsOk (l : List Pr) : Prop := l.length ≤ 1000000 ∧ ∀ p ∈ l, p.1.length ≤ 1000000000 ∧ p.2.length ≤ 1000000000
theorem filter_step (f : Pr → Bool) (l : List Pr) {i : Nat} (h : i < l.length) : (l.take (i + 1)).filter f = (l.take i).filter f ++ if f l[i] = true then [l[i]] else [] := by
  rw [List.take_add_one, List.getElem?_eq_getElem h, List.filter_append]
  congr 1
  show List.filter f [l[i]] = _
  simp only [List.filter_cons, List.filter_nil]
abbrev rowP (cs : List AV) : ABlk := ⟨cs, some 212, false, true⟩
/-- the state of a filter -/
def FInv (f : Pr → Bool) (l : List Pr) (k : Key) (vs : List AV) (bl : List ABlk) : Prop :=
  ∃ (i m : Nat) (D : List AV), i ≤ l.length ∧ m = ((l.take i).filter f).length ∧ D = prC ((l.take i).filter f) ∧ (vs = [Z i, .sl 0 m, .vs l.length (prC l), T k] ∧ bl = [rowP D])
theorem FInv.start (f : Pr → Bool) (l : List Pr) (k : Key) : FInv f l k [Z 0, .sl 0 0, .vs l.length (prC l), T k] [rowP []] := ⟨0, 0, [], by omega, rfl, rfl, rfl, rfl⟩
theorem FInv.hit {f : Pr → Bool} {l : List Pr} {k : Key} {i : Nat} (h : i < l.length) (hf : f l[i] = true) : FInv f l k [Z ((i : Int) + 1), .sl 0 (((l.take i).filter f).length + 1), .vs l.length (prC l), T k] [rowP (prC ((l.take i).filter f) ++ [T (l[i]).1, T (l[i]).2])] :=
  ⟨i + 1, _, _, by omega, by rw [filter_step f l h, if_pos hf, List.length_append]; rfl, by rw [filter_step f l h, if_pos hf, prC_app]; rfl, rfl, rfl⟩
theorem FInv.miss {f : Pr → Bool} {l : List Pr} {k : Key} {i : Nat} (h : i < l.length) (hf : f l[i] = false) : FInv f l k [Z ((i : Int) + 1), .sl 0 (((l.take i).filter f).length), .vs l.length (prC l), T k] [rowP (prC ((l.take i).filter f))] :=
  ⟨i + 1, _, _, by omega, by rw [filter_step f l h, if_neg (by rw [hf]; decide), List.append_nil], by rw [filter_step f l h, if_neg (by rw [hf]; decide), List.append_nil], rfl, rfl⟩
def muI (n : Nat) : List AV → List ABlk → Nat
  | .ex (.int _ i) :: _, _ => n - i.toNat
  | _, _ => 0
theorem pdel_ok (l : List Pr) (k : Key) (hl : PrsOk l) : SP 116 [.vs l.length (prC l), T k] (.vs (delL k l).length (prC (delL k l))) := by
  have hn := hl.1
  obtain ⟨R, hR⟩ : ∃ R, R = delL k l := ⟨_, rfl⟩
  rw [← hR]
  refine S_ Tryz.func116 (by kernel_rfl) rfl (Nat.le_of_ble_eq_true rfl) ?_
  show avc Tryz.prog SP _ _ _ _ _ _
  dsimp only [avc, startS, Array.toList, Tryz.f116]
  refine Av.Wk ?_
  refine ⟨[6, 5, 0, 1], [(5, some 212)], FInv (fun p => p.1 != k) l k, muI l.length, ?_, ?_⟩
  · exact FInv.start _ l k
  rintro vs bl ⟨i, m, D, hi, hm, hD, rfl, rfl⟩
  have hml : m ≤ i := by rw [hm]; exact Nat.le_trans (List.length_filter_le _ _) (by rw [List.length_take]; omega)
  have hDl : D.length = m * sizeT Tryz.prog 212 := by rw [hD, prC_len, hm, hsP]
  by_cases hlt : i < l.length
  · have h1 := prK hlt
    have h2 := prW hlt
    have hdec : muI l.length [Z ((i : Int) + 1)] [] < muI l.length [Z i] [] := by show l.length - ((i : Int) + 1).toNat < l.length - (i : Int).toNat; omega
    have hb : (!((bs (l[i]).1).toList == (bs k).toList)) = ((l[i]).1 != k) := by rw [bsl_, bsl_]; rfl
    cases hf : ((l[i]).1 != k) with
    | true =>
      rw [hf] at hb
      have fin := FInv.hit (f := fun p => p.1 != k) (k := k) hlt hf
      rw [← hm, ← hD] at fin
      clear hR
      repeat' ((try conv => whnf) <;> first | refine Av.hm_ ?_ | refine Av.w1 ?_ | refine Av.w2 ?_ | refine Av.w3 ?_ | refine Av.w4 ?_ | refine Av.nle rfl ?_ | refine Av.q1 ?_ | refine Av.q2 ?_ | refine Av.q3 ?_ | refine Av.q4 ?_ | refine Av.inr_ (by omega) (by omega) ?_ | (refine ⟨_, h1, ?_⟩) | (refine br_t hb ?_) | (refine ⟨_, h2, ?_⟩) | (refine ⟨false, ?_⟩) | (refine And.intro ⟨room_p (by omega), hDl, pre2 _ _⟩ ?_) | exact True.intro | refine Av.eqt_ (by kernel_rfl) ?_ | refine ⟨rfl, ?_⟩ | refine ⟨⟨Nat.le_of_ble_eq_true rfl, rfl⟩, ?_⟩ | refine ⟨⟨rfl, rfl⟩, ?_⟩ | refine ⟨⟨rfl, rfl, rfl⟩, ?_⟩ | exact ⟨rfl, rfl, rfl⟩ | exact ⟨rfl, rfl⟩ | ((first | refine br_lt ?_ ?_ | refine br_lt_ ?_ ?_ | refine br_le ?_ ?_ | refine br_le_ ?_ ?_ | refine br_eq ?_ ?_ | refine br_eq_ ?_ ?_ | refine br_seq ?_ ?_ | refine br_seq_ ?_ ?_) <;> intro hBr <;> first | (exfalso; omega) | (exfalso; contradiction) | (exfalso; exact hBr rfl) | skip) | refine br_not ?_ | refine br_not_ ?_ | refine br_and ?_ | refine br_and_ ?_ | refine Av.asm_ (by omega) ?_ | refine ⟨_, wrap_i64 (by omega), ?_⟩ | refine ⟨_, wrap_u64 (by omega) (by omega), ?_⟩ | refine ⟨_, wrap_u8 (by omega) (by omega), ?_⟩ | refine ⟨_, wrap_u32 (by omega) (by omega), ?_⟩ | refine ⟨_, wrap_u16 (by omega) (by omega), ?_⟩ | refine ⟨_, rfl, ?_⟩ | exact rfl)
      exact hdec
    | false =>
      rw [hf] at hb
      have fin := FInv.miss (f := fun p => p.1 != k) (k := k) hlt hf
      rw [← hm, ← hD] at fin
      clear hR
      exact Av.W
  · obtain rfl : i = l.length := by omega
    rw [List.take_length] at hm hD
    have e1 : R.length = m := by rw [hR, hm]; rfl
    have e2 : prC R = D := by rw [hR, hD]; rfl
    rw [e1, e2]
    clear hR hm hD e1 e2 hml hDl
    exact Av.W
theorem pdrop_ok (l : List Pr) (k : Key) (hl : PrsOk l) (hk : k.length ≤ 1000000000) : SP 117 [.vs l.length (prC l), T k] (.vs (dropL k l).length (prC (dropL k l))) := by
  have hn := hl.1
  obtain ⟨R, hR⟩ : ∃ R, R = dropL k l := ⟨_, rfl⟩
  rw [← hR]
  refine S_ Tryz.func117 (by kernel_rfl) rfl (Nat.le_of_ble_eq_true rfl) ?_
  show avc Tryz.prog SP _ _ _ _ _ _
  dsimp only [avc, startS, Array.toList, Tryz.f117]
  refine Av.Wk ?_
  refine ⟨[6, 5, 0, 1], [(5, some 212)], FInv (fun p => !begins k p.1) l k, muI l.length, ?_, ?_⟩
  · exact FInv.start _ l k
  rintro vs bl ⟨i, m, D, hi, hm, hD, rfl, rfl⟩
  have hml : m ≤ i := by rw [hm]; exact Nat.le_trans (List.length_filter_le _ _) (by rw [List.length_take]; omega)
  have hDl : D.length = m * sizeT Tryz.prog 212 := by rw [hD, prC_len, hm, hsP]
  by_cases hlt : i < l.length
  · have h1 := prK hlt
    have h2 := prW hlt
    have hdec : muI l.length [Z ((i : Int) + 1)] [] < muI l.length [Z i] [] := by show l.length - ((i : Int) + 1).toNat < l.length - (i : Int).toNat; omega
    have hx := hl.2 _ (List.getElem_mem hlt)
    have c := begins_ok (l[i]).1 k (by omega) (by omega)
    cases hf : begins k (l[i]).1 with
    | false =>
      rw [hf] at c
      have fin := FInv.hit (f := fun p => !begins k p.1) (k := k) hlt (by simp only [hf]; rfl)
      rw [← hm, ← hD] at fin
      clear hR
      repeat' ((try conv => whnf) <;> first | refine Av.hm_ ?_ | refine Av.w1 ?_ | refine Av.w2 ?_ | refine Av.w3 ?_ | refine Av.w4 ?_ | refine Av.nle rfl ?_ | refine Av.q1 ?_ | refine Av.q2 ?_ | refine Av.q3 ?_ | refine Av.q4 ?_ | refine Av.inr_ (by omega) (by omega) ?_ | (refine ⟨_, h1, ?_⟩) | refine ⟨_, c, ?_⟩ | (refine ⟨_, h2, ?_⟩) | (refine ⟨false, ?_⟩) | (refine And.intro ⟨room_p (by omega), hDl, pre2 _ _⟩ ?_) | exact True.intro | refine Av.eqt_ (by kernel_rfl) ?_ | refine ⟨rfl, ?_⟩ | refine ⟨⟨Nat.le_of_ble_eq_true rfl, rfl⟩, ?_⟩ | refine ⟨⟨rfl, rfl⟩, ?_⟩ | refine ⟨⟨rfl, rfl, rfl⟩, ?_⟩ | exact ⟨rfl, rfl, rfl⟩ | exact ⟨rfl, rfl⟩ | ((first | refine br_lt ?_ ?_ | refine br_lt_ ?_ ?_ | refine br_le ?_ ?_ | refine br_le_ ?_ ?_ | refine br_eq ?_ ?_ | refine br_eq_ ?_ ?_ | refine br_seq ?_ ?_ | refine br_seq_ ?_ ?_) <;> intro hBr <;> first | (exfalso; omega) | (exfalso; contradiction) | (exfalso; exact hBr rfl) | skip) | refine br_not ?_ | refine br_not_ ?_ | refine br_and ?_ | refine br_and_ ?_ | refine Av.asm_ (by omega) ?_ | refine ⟨_, wrap_i64 (by omega), ?_⟩ | refine ⟨_, wrap_u64 (by omega) (by omega), ?_⟩ | refine ⟨_, wrap_u8 (by omega) (by omega), ?_⟩ | refine ⟨_, wrap_u32 (by omega) (by omega), ?_⟩ | refine ⟨_, wrap_u16 (by omega) (by omega), ?_⟩ | refine ⟨_, rfl, ?_⟩ | exact rfl)
      exact hdec
    | true =>
      rw [hf] at c
      have fin := FInv.miss (f := fun p => !begins k p.1) (k := k) hlt (by simp only [hf]; rfl)
      rw [← hm, ← hD] at fin
      clear hR
      exact Av.W
  · obtain rfl : i = l.length := by omega
    rw [List.take_length] at hm hD
    have e1 : R.length = m := by rw [hR, hm]; rfl
    have e2 : prC R = D := by rw [hR, hD]; rfl
    rw [e1, e2]
    clear hR hm hD e1 e2 hml hDl
    exact Av.W
end Go.Proofs.YtbaedepmogkkeaaGreat.Av
