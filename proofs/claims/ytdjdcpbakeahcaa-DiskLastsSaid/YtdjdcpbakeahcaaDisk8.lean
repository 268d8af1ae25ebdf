/- disk: the document's Crash and Read, walked. No conditions but that lengths are what memory holds. -/
import Derived.Test.YtdjdcpbakeahcaaDisk7
namespace Go.Proofs.Ytdjdcpbakeahcaa.Av
open Go Go.RowKit
set_option linter.unusedVariables false
set_option linter.unusedSimpArgs false
set_option maxRecDepth 100000
set_option maxHeartbeats 1000000

abbrev muL (n : Nat) : List AV → List ABlk → Nat := fun vs _ => match vs with
  | .ex (.int _ i) :: _ => n - i.toNat
  | _ => 0
theorem clamp_cases (cut : Int) : (cut < 0 ∧ clampI cut = 0) ∨ (64 < cut ∧ clampI cut = 64) ∨ (0 ≤ cut ∧ cut ≤ 64 ∧ clampI cut = cut) := by
  unfold clampI
  split <;> split <;> omega
theorem rwW {l : List Rw} {i : Nat} (h : i < l.length) : (rwC l)[i * 2]? = some (Z l[i].1) ∧ (rwC l)[i * 2 + 1]? = some (T l[i].2) := by
  induction l generalizing i with
  | nil => simp at h
  | cons x l ih =>
    have e : rwC (x :: l) = Z x.1 :: T x.2 :: rwC l := rfl
    cases i with
    | zero => rw [e]; exact ⟨rfl, rfl⟩
    | succ i =>
      have := ih (i := i) (by simpa using h)
      rw [e, show (i + 1) * 2 = i * 2 + 1 + 1 by omega]
      simpa using this
theorem rw0 {l : List Rw} {i : Int} {j : Nat} (hi : i = (j : Int)) (h : j < l.length) : (rwC l)[mulS i.toNat (sizeT Try.prog 143) + 0]? = some (Z l[j].1) := by
  rw [hi, hsR, mulS_eq, Int.toNat_natCast]; exact (rwW h).1
theorem rw1 {l : List Rw} {i : Int} {j : Nat} (hi : i = (j : Int)) (h : j < l.length) : (rwC l)[mulS i.toNat (sizeT Try.prog 143) + 1]? = some (T l[j].2) := by
  rw [hi, hsR, mulS_eq, Int.toNat_natCast]; exact (rwW h).2
theorem rwA {l : List Rw} {i : Int} {j : Nat} (hi : i = (j : Int)) (h : j < l.length) : ([Z l[j].1, T l[j].2] : List AV).length = sizeT Try.prog 143 ∧ ∀ k v, ([Z l[j].1, T l[j].2] : List AV)[k]? = some v → (rwC l)[mulS i.toNat (sizeT Try.prog 143) + k]? = some v := by
  refine ⟨hsR.symm, fun k v hv => ?_⟩
  match k, hv with
  | 0, hv => rw [rw0 hi h]; exact hv
  | 1, hv => rw [rw1 hi h]; exact hv
  | k + 2, hv => simp at hv
theorem app3_ok (l : List Rw) (i : Int) (s : ByteArray) (hl : l.length ≤ 900000) : room (l.length + 1) (bytesT Try.prog 143) ∧ (rwC l).length = l.length * sizeT Try.prog 143 ∧ ([Z i, .ex (.string s)] : List AV).length = 1 * sizeT Try.prog 143 ∧ ∀ v ∈ ([Z i, .ex (.string s)] : List AV), one1 v = true :=
  ⟨room_R (by omega), by rw [hsR, rwC_len], one_R i s⟩
abbrev dkB (n : Nat) (l : List Rw) (lasts : Nat) (w : Int) : ABlk := ⟨[Z n, .vs l.length (rwC l), Z lasts, Z w], none, false, true⟩
abbrev zdB : ABlk := ⟨[Z 0, nilA, Z 0, Z 0], none, false, true⟩
theorem rcrash_ok (n : Nat) (l : List Rw) (lasts : Nat) (w : Int) (p : Plan) (hk : p.keep < 18446744073709551616) (h : lasts ≤ l.length) (hl : l.length ≤ 1000) (hf : Full64 (l.drop lasts)) :
    SP 68 [dkA n l lasts w, planA p] (dkA n (l.take lasts ++ keptL p 0 (l.drop lasts)) (l.take lasts ++ keptL p 0 (l.drop lasts)).length w) := by
  obtain ⟨keep, torn, cut⟩ := p
  have ck := fun i (hi : i ≤ 1000000) => rkept_ok keep i hk hi
  have hk : keep < 18446744073709551616 := hk
  show SP _ [dkA n l lasts w, .ex (.agg #[.int .u64 keep, .int .i64 torn, .int .i64 cut])] _
  have ht : takeL (rwC l) (mulS (0 : Int).toNat (sizeT Try.prog 143)) (mulS ((lasts : Int).toNat - (0 : Int).toNat) (sizeT Try.prog 143)) = rwC (l.take lasts) := by
    rw [hsR, mulS_eq, mulS_eq, Int.toNat_natCast]
    show ((rwC l).drop 0).take ((lasts - 0) * 2) = _
    rw [List.drop_zero, Nat.sub_zero, rwC_take]
  have hb : (0 : Int) ≤ 0 ∧ (0 : Int) ≤ (lasts : Int) ∧ (lasts : Int) ≤ (l.length : Nat) ∧ l.length * sizeT Try.prog 143 ≤ (rwC l).length := ⟨by omega, by omega, by omega, by rw [hsR, rwC_len]; omega⟩
  have hlen : (l.take lasts).length = lasts := by rw [List.length_take]; omega
  have h1 : room (0 + ((lasts : Int).toNat - (0 : Int).toNat)) (bytesT Try.prog 143) ∧ ([] : List AV).length = 0 * sizeT Try.prog 143 ∧ (rwC (l.take lasts)).length = ((lasts : Int).toNat - (0 : Int).toNat) * sizeT Try.prog 143 ∧ ∀ v ∈ rwC (l.take lasts), one1 v = true :=
    ⟨room_R (by rw [Int.toNat_natCast]; show 0 + (lasts - 0) ≤ _; omega), rfl, by rw [hsR, rwC_len, hlen, Int.toNat_natCast]; rfl, rwC_one _⟩
  have hl0 : 0 + ((lasts : Int).toNat - (0 : Int).toNat) = (l.take lasts).length := by rw [hlen, Int.toNat_natCast]; show 0 + (lasts - 0) = _; omega
  rw [← ht] at h1
  have hall : (l.drop lasts).take (l.length - lasts) = l.drop lasts := List.take_of_length_le (by rw [List.length_drop]; omega)
  obtain ⟨Y, hY⟩ : ∃ Y, Y = l.take lasts ++ keptL ⟨keep, torn, cut⟩ 0 (l.drop lasts) := ⟨_, rfl⟩
  rw [← hY]
  rw [← hall] at hY
  have hC0 : [] ++ takeL (rwC l) (mulS (0 : Int).toNat (sizeT Try.prog 143)) (mulS ((lasts : Int).toNat - (0 : Int).toNat) (sizeT Try.prog 143)) = rwC (l.take lasts ++ keptL ⟨keep, torn, cut⟩ 0 ((l.drop lasts).take 0)) := by
    rw [ht, List.take_zero]; simp [keptL]
  have hk0 : 0 + ((lasts : Int).toNat - (0 : Int).toNat) = (l.take lasts ++ keptL ⟨keep, torn, cut⟩ 0 ((l.drop lasts).take 0)).length := by
    rw [hl0, List.take_zero]; simp [keptL]
  refine S_ Try.func68 (by kernel_rfl) rfl (Nat.le_of_ble_eq_true rfl) ?_
  show avc Try.prog SP _ _ _ _ _ _
  dsimp only [avc, startS, Array.toList, Try.f68]
  repeat' ((try conv => whnf) <;> (first | (refine Hold.mk ?_) | (refine And.intro (fun _ => ?_) (fun h => Bool.noConfusion h)) | (refine And.intro (fun h => Bool.noConfusion h) (fun _ => ?_)) | (refine And.intro (Nat.le_of_ble_eq_true rfl) ?_) | (refine And.intro (fun _ => ?_) (fun h => Bool.noConfusion ((beq_self_eq_true _).symm.trans h))) | (refine And.intro (fun h => Bool.noConfusion ((bne_self_eq_false _).symm.trans h)) (fun _ => ?_)) | (refine And.intro (fun h => Bool.noConfusion ((beq_self_eq_true _).symm.trans h)) (fun _ => ?_)) | (refine And.intro (fun _ => ?_) (fun h => Bool.noConfusion ((bne_self_eq_false _).symm.trans h))) | (refine And.intro (show inR _ from ⟨by omega, by omega⟩) ?_) | (refine ⟨true, ?_⟩) | (refine And.intro hb ?_) | (refine And.intro h1 ?_) | (refine ⟨[], [0, 0, 2, 0, 14, 30, 62, 0, 128, 0, 896, 1920, 3968, 0, 16256, 32766, 65534, 131071, 262143], len_ok rfl (by kernel_rfl), ?_⟩) | (exact True.intro) | (refine And.intro (show eqT _ _ = true by kernel_rfl) ?_) | (refine And.intro rfl ?_) | (refine And.intro (And.intro (Nat.le_of_ble_eq_true rfl) rfl) ?_) | (refine And.intro (And.intro rfl rfl) ?_) | (refine And.intro (And.intro rfl (And.intro rfl rfl)) ?_) | (exact And.intro rfl (And.intro rfl rfl)) | (exact And.intro rfl rfl) | (refine br_lt ?_ ?_ <;> intro hBr <;> (first | (exfalso; omega) | (exfalso; contradiction) | (exfalso; exact hBr rfl) | skip)) | (refine br_lt_ ?_ ?_ <;> intro hBr <;> (first | (exfalso; omega) | (exfalso; contradiction) | (exfalso; exact hBr rfl) | skip)) | (refine br_le ?_ ?_ <;> intro hBr <;> (first | (exfalso; omega) | (exfalso; contradiction) | (exfalso; exact hBr rfl) | skip)) | (refine br_le_ ?_ ?_ <;> intro hBr <;> (first | (exfalso; omega) | (exfalso; contradiction) | (exfalso; exact hBr rfl) | skip)) | (refine br_eq ?_ ?_ <;> intro hBr <;> (first | (exfalso; omega) | (exfalso; contradiction) | (exfalso; exact hBr rfl) | skip)) | (refine br_eq_ ?_ ?_ <;> intro hBr <;> (first | (exfalso; omega) | (exfalso; contradiction) | (exfalso; exact hBr rfl) | skip)) | (refine br_seq ?_ ?_ <;> intro hBr <;> (first | (exfalso; omega) | (exfalso; contradiction) | (exfalso; exact hBr rfl) | skip)) | (refine br_seq_ ?_ ?_ <;> intro hBr <;> (first | (exfalso; omega) | (exfalso; contradiction) | (exfalso; exact hBr rfl) | skip)) | (refine br_not ?_) | (refine br_not_ ?_) | (refine br_and ?_) | (refine br_and_ ?_) | (refine And.intro (by omega) ?_) | (refine ⟨_, wrap_i64 (by omega), ?_⟩) | (refine ⟨_, wrap_u64 (by omega) (by omega), ?_⟩) | (refine ⟨_, wrap_u8 (by omega) (by omega), ?_⟩) | (refine ⟨_, wrap_u32 (by omega) (by omega), ?_⟩) | (refine ⟨_, wrap_u16 (by omega) (by omega), ?_⟩) | (refine ⟨_, rfl, ?_⟩) | (exact rfl)))
  refine ⟨[6, 2, 3, 4, 5], [], fun vs bl => ∃ (j : Nat) (X : List Rw) (C : List AV) (k : Nat), lasts + j ≤ l.length ∧ X = l.take lasts ++ keptL ⟨keep, torn, cut⟩ 0 ((l.drop lasts).take j) ∧ C = rwC X ∧ k = X.length ∧ (vs = [Z ((lasts : Int) + j), .ptr 0 0, .ptr 1 0, .ptr 2 0, .sl 3 k] ∧ bl = [dkB n l lasts w, ⟨[U keep, Z torn, Z cut], none, false, true⟩, zdB, ⟨C, some 143, true, true⟩]), muL l.length, ?_, ?_⟩
  · exact ⟨0, _, _, _, by omega, rfl, hC0, hk0, by rw [Int.natCast_zero, Int.add_zero], rfl⟩
  rintro vs bl ⟨j, X, C, k, hj, hX, hC, hkx, rfl, rfl⟩
  clear h1 hb ht hl0 hC0 hk0
  have hXl : X.length ≤ 1000 := by
    rw [hX, List.length_append, hlen]
    have := keptL_len ⟨keep, torn, cut⟩ ((l.drop lasts).take j) 0
    rw [List.length_take] at this
    omega
  by_cases hlt : lasts + j < l.length
  · have e0 : (lasts : Int) + j = ((lasts + j : Nat) : Int) := by omega
    have hw0 := rw0 e0 hlt
    have hw1 := rw1 e0 hlt
    have hwa := rwA e0 hlt
    have h64 : l[lasts + j].2.length = 64 := hf _ (by
      rw [List.mem_iff_getElem]; exact ⟨j, by rw [List.length_drop]; omega, by rw [List.getElem_drop]⟩)
    have hn : l.take lasts ++ keptL ⟨keep, torn, cut⟩ 0 ((l.drop lasts).take (j + 1)) = X ++ kept1 ⟨keep, torn, cut⟩ j l[lasts + j] := by
      have e : (l.drop lasts)[j]? = some l[lasts + j] := by rw [List.getElem?_drop, List.getElem?_eq_getElem hlt]
      rw [List.take_add_one, e]
      show _ ++ keptL _ 0 (_ ++ [l[lasts + j]]) = _
      rw [keptL_app, ← List.append_assoc, ← hX, List.length_take, List.length_drop, Nat.min_eq_left (by omega), Nat.zero_add]
    have cj := ck j (by omega)
    generalize l[lasts + j] = x at hw0 hw1 hwa h64 hn
    obtain ⟨a, s⟩ := x
    dsimp only at hw0 hw1 hwa
    have h64 : s.length = 64 := h64
    have hbs : ((bs s).size : Int) = 64 := by rw [bs_size]; omega
    have hd : l.length - ((lasts : Int) + j + 1).toNat < l.length - ((lasts : Int) + j).toNat := by omega
    have ej : (lasts : Int) + (j + 1 : Nat) = (lasts : Int) + j + 1 := by omega
    by_cases ht : (j : Int) = torn
    · have hk1 : kept1 ⟨keep, torn, cut⟩ j (a, s) = [(a, s.take (clampI cut).toNat)] := if_pos ht
      rw [hk1] at hn
      have hap := fun b => app3_ok X a b (by omega)
      have hnew : ∀ b : ByteArray, b = bs (s.take (clampI cut).toNat) → C ++ [Z a, .ex (.string b)] = rwC (X ++ [(a, s.take (clampI cut).toNat)]) := fun b hb => by
        rw [hb, hC, rwC_app]; rfl
      have hex : ∀ c : Int, 0 ≤ c → c ≤ 64 → (bs s).extract (0 : Int).toNat c.toNat = bs (s.take c.toNat) := fun c _ _ => by
        rw [bs_cut]; show bs ((s.drop 0).take (c.toNat - 0)) = _; rw [List.drop_zero, Nat.sub_zero]
      have hkn : k + 1 = (X ++ [(a, s.take (clampI cut).toNat)]).length := by rw [List.length_append, ← hkx]; rfl
      rw [← hC, ← hkx] at hap
      have ht2 : (lasts : Int) + j - lasts = torn := by omega
      clear ck cj hf hX hY hall hC hwa hk1 hlen
      rcases clamp_cases cut with ⟨c1, c2⟩ | ⟨c1, c2⟩ | ⟨c1, c3, c2⟩
      · have hx := hex 0 (by omega) (by omega)
        have hnew := hnew ((bs s).extract (0 : Int).toNat (0 : Int).toNat) (by rw [c2]; exact hx)
        have hap := hap ((bs s).extract (0 : Int).toNat (0 : Int).toNat)
        clear hex hx c2
        generalize clampI cut = cc at *
        repeat' ((try conv => whnf) <;> (first | (refine Hold.mk ?_) | (refine And.intro (fun _ => ?_) (fun h => Bool.noConfusion h)) | (refine And.intro (fun h => Bool.noConfusion h) (fun _ => ?_)) | (refine And.intro (Nat.le_of_ble_eq_true rfl) ?_) | (refine And.intro (fun _ => ?_) (fun h => Bool.noConfusion ((beq_self_eq_true _).symm.trans h))) | (refine And.intro (fun h => Bool.noConfusion ((bne_self_eq_false _).symm.trans h)) (fun _ => ?_)) | (refine And.intro (fun h => Bool.noConfusion ((beq_self_eq_true _).symm.trans h)) (fun _ => ?_)) | (refine And.intro (fun _ => ?_) (fun h => Bool.noConfusion ((bne_self_eq_false _).symm.trans h))) | (refine And.intro (show inR _ from ⟨by omega, by omega⟩) ?_) | (refine ⟨_, hw0, ?_⟩) | (refine ⟨_, hw1, ?_⟩) | (refine ⟨true, ?_⟩) | (refine And.intro hap ?_) | (refine ⟨[], [0, 0, 2, 0, 14, 30, 62, 0, 128, 0, 896, 1920, 3968, 0, 16256, 32766, 65534, 131071, 262143], len_ok rfl (by kernel_rfl), ?_⟩) | (exact True.intro) | (refine And.intro (show eqT _ _ = true by kernel_rfl) ?_) | (refine And.intro rfl ?_) | (refine And.intro (And.intro (Nat.le_of_ble_eq_true rfl) rfl) ?_) | (refine And.intro (And.intro rfl rfl) ?_) | (refine And.intro (And.intro rfl (And.intro rfl rfl)) ?_) | (exact And.intro rfl (And.intro rfl rfl)) | (exact And.intro rfl rfl) | (refine br_lt ?_ ?_ <;> intro hBr <;> (first | (exfalso; omega) | (exfalso; contradiction) | (exfalso; exact hBr rfl) | skip)) | (refine br_lt_ ?_ ?_ <;> intro hBr <;> (first | (exfalso; omega) | (exfalso; contradiction) | (exfalso; exact hBr rfl) | skip)) | (refine br_le ?_ ?_ <;> intro hBr <;> (first | (exfalso; omega) | (exfalso; contradiction) | (exfalso; exact hBr rfl) | skip)) | (refine br_le_ ?_ ?_ <;> intro hBr <;> (first | (exfalso; omega) | (exfalso; contradiction) | (exfalso; exact hBr rfl) | skip)) | (refine br_eq ?_ ?_ <;> intro hBr <;> (first | (exfalso; omega) | (exfalso; contradiction) | (exfalso; exact hBr rfl) | skip)) | (refine br_eq_ ?_ ?_ <;> intro hBr <;> (first | (exfalso; omega) | (exfalso; contradiction) | (exfalso; exact hBr rfl) | skip)) | (refine br_seq ?_ ?_ <;> intro hBr <;> (first | (exfalso; omega) | (exfalso; contradiction) | (exfalso; exact hBr rfl) | skip)) | (refine br_seq_ ?_ ?_ <;> intro hBr <;> (first | (exfalso; omega) | (exfalso; contradiction) | (exfalso; exact hBr rfl) | skip)) | (refine br_not ?_) | (refine br_not_ ?_) | (refine br_and ?_) | (refine br_and_ ?_) | (refine And.intro (by omega) ?_) | (refine ⟨_, wrap_i64 (by omega), ?_⟩) | (refine ⟨_, wrap_u64 (by omega) (by omega), ?_⟩) | (refine ⟨_, wrap_u8 (by omega) (by omega), ?_⟩) | (refine ⟨_, wrap_u32 (by omega) (by omega), ?_⟩) | (refine ⟨_, wrap_u16 (by omega) (by omega), ?_⟩) | (refine ⟨_, rfl, ?_⟩) | (exact rfl)))
        exact ⟨⟨j + 1, _, _, _, by omega, hn.symm, hnew, hkn, by rw [ej], rfl⟩, hd⟩
      · have hx := hex 64 (by omega) (by omega)
        have hnew := hnew ((bs s).extract (0 : Int).toNat (64 : Int).toNat) (by rw [c2]; exact hx)
        have hap := hap ((bs s).extract (0 : Int).toNat (64 : Int).toNat)
        clear hex hx c2
        generalize clampI cut = cc at *
        repeat' ((try conv => whnf) <;> (first | (refine Hold.mk ?_) | (refine And.intro (fun _ => ?_) (fun h => Bool.noConfusion h)) | (refine And.intro (fun h => Bool.noConfusion h) (fun _ => ?_)) | (refine And.intro (Nat.le_of_ble_eq_true rfl) ?_) | (refine And.intro (fun _ => ?_) (fun h => Bool.noConfusion ((beq_self_eq_true _).symm.trans h))) | (refine And.intro (fun h => Bool.noConfusion ((bne_self_eq_false _).symm.trans h)) (fun _ => ?_)) | (refine And.intro (fun h => Bool.noConfusion ((beq_self_eq_true _).symm.trans h)) (fun _ => ?_)) | (refine And.intro (fun _ => ?_) (fun h => Bool.noConfusion ((bne_self_eq_false _).symm.trans h))) | (refine And.intro (show inR _ from ⟨by omega, by omega⟩) ?_) | (refine ⟨_, hw0, ?_⟩) | (refine ⟨_, hw1, ?_⟩) | (refine ⟨true, ?_⟩) | (refine And.intro hap ?_) | (refine ⟨[], [0, 0, 2, 0, 14, 30, 62, 0, 128, 0, 896, 1920, 3968, 0, 16256, 32766, 65534, 131071, 262143], len_ok rfl (by kernel_rfl), ?_⟩) | (exact True.intro) | (refine And.intro (show eqT _ _ = true by kernel_rfl) ?_) | (refine And.intro rfl ?_) | (refine And.intro (And.intro (Nat.le_of_ble_eq_true rfl) rfl) ?_) | (refine And.intro (And.intro rfl rfl) ?_) | (refine And.intro (And.intro rfl (And.intro rfl rfl)) ?_) | (exact And.intro rfl (And.intro rfl rfl)) | (exact And.intro rfl rfl) | (refine br_lt ?_ ?_ <;> intro hBr <;> (first | (exfalso; omega) | (exfalso; contradiction) | (exfalso; exact hBr rfl) | skip)) | (refine br_lt_ ?_ ?_ <;> intro hBr <;> (first | (exfalso; omega) | (exfalso; contradiction) | (exfalso; exact hBr rfl) | skip)) | (refine br_le ?_ ?_ <;> intro hBr <;> (first | (exfalso; omega) | (exfalso; contradiction) | (exfalso; exact hBr rfl) | skip)) | (refine br_le_ ?_ ?_ <;> intro hBr <;> (first | (exfalso; omega) | (exfalso; contradiction) | (exfalso; exact hBr rfl) | skip)) | (refine br_eq ?_ ?_ <;> intro hBr <;> (first | (exfalso; omega) | (exfalso; contradiction) | (exfalso; exact hBr rfl) | skip)) | (refine br_eq_ ?_ ?_ <;> intro hBr <;> (first | (exfalso; omega) | (exfalso; contradiction) | (exfalso; exact hBr rfl) | skip)) | (refine br_seq ?_ ?_ <;> intro hBr <;> (first | (exfalso; omega) | (exfalso; contradiction) | (exfalso; exact hBr rfl) | skip)) | (refine br_seq_ ?_ ?_ <;> intro hBr <;> (first | (exfalso; omega) | (exfalso; contradiction) | (exfalso; exact hBr rfl) | skip)) | (refine br_not ?_) | (refine br_not_ ?_) | (refine br_and ?_) | (refine br_and_ ?_) | (refine And.intro (by omega) ?_) | (refine ⟨_, wrap_i64 (by omega), ?_⟩) | (refine ⟨_, wrap_u64 (by omega) (by omega), ?_⟩) | (refine ⟨_, wrap_u8 (by omega) (by omega), ?_⟩) | (refine ⟨_, wrap_u32 (by omega) (by omega), ?_⟩) | (refine ⟨_, wrap_u16 (by omega) (by omega), ?_⟩) | (refine ⟨_, rfl, ?_⟩) | (exact rfl)))
        exact ⟨⟨j + 1, _, _, _, by omega, hn.symm, hnew, hkn, by rw [ej], rfl⟩, hd⟩
      · have hx := hex cut (by omega) (by omega)
        have hnew := hnew ((bs s).extract (0 : Int).toNat cut.toNat) (by rw [c2]; exact hx)
        have hap := hap ((bs s).extract (0 : Int).toNat cut.toNat)
        clear hex hx c2
        generalize clampI cut = cc at *
        repeat' ((try conv => whnf) <;> (first | (refine Hold.mk ?_) | (refine And.intro (fun _ => ?_) (fun h => Bool.noConfusion h)) | (refine And.intro (fun h => Bool.noConfusion h) (fun _ => ?_)) | (refine And.intro (Nat.le_of_ble_eq_true rfl) ?_) | (refine And.intro (fun _ => ?_) (fun h => Bool.noConfusion ((beq_self_eq_true _).symm.trans h))) | (refine And.intro (fun h => Bool.noConfusion ((bne_self_eq_false _).symm.trans h)) (fun _ => ?_)) | (refine And.intro (fun h => Bool.noConfusion ((beq_self_eq_true _).symm.trans h)) (fun _ => ?_)) | (refine And.intro (fun _ => ?_) (fun h => Bool.noConfusion ((bne_self_eq_false _).symm.trans h))) | (refine And.intro (show inR _ from ⟨by omega, by omega⟩) ?_) | (refine ⟨_, hw0, ?_⟩) | (refine ⟨_, hw1, ?_⟩) | (refine ⟨true, ?_⟩) | (refine And.intro hap ?_) | (refine ⟨[], [0, 0, 2, 0, 14, 30, 62, 0, 128, 0, 896, 1920, 3968, 0, 16256, 32766, 65534, 131071, 262143], len_ok rfl (by kernel_rfl), ?_⟩) | (exact True.intro) | (refine And.intro (show eqT _ _ = true by kernel_rfl) ?_) | (refine And.intro rfl ?_) | (refine And.intro (And.intro (Nat.le_of_ble_eq_true rfl) rfl) ?_) | (refine And.intro (And.intro rfl rfl) ?_) | (refine And.intro (And.intro rfl (And.intro rfl rfl)) ?_) | (exact And.intro rfl (And.intro rfl rfl)) | (exact And.intro rfl rfl) | (refine br_lt ?_ ?_ <;> intro hBr <;> (first | (exfalso; omega) | (exfalso; contradiction) | (exfalso; exact hBr rfl) | skip)) | (refine br_lt_ ?_ ?_ <;> intro hBr <;> (first | (exfalso; omega) | (exfalso; contradiction) | (exfalso; exact hBr rfl) | skip)) | (refine br_le ?_ ?_ <;> intro hBr <;> (first | (exfalso; omega) | (exfalso; contradiction) | (exfalso; exact hBr rfl) | skip)) | (refine br_le_ ?_ ?_ <;> intro hBr <;> (first | (exfalso; omega) | (exfalso; contradiction) | (exfalso; exact hBr rfl) | skip)) | (refine br_eq ?_ ?_ <;> intro hBr <;> (first | (exfalso; omega) | (exfalso; contradiction) | (exfalso; exact hBr rfl) | skip)) | (refine br_eq_ ?_ ?_ <;> intro hBr <;> (first | (exfalso; omega) | (exfalso; contradiction) | (exfalso; exact hBr rfl) | skip)) | (refine br_seq ?_ ?_ <;> intro hBr <;> (first | (exfalso; omega) | (exfalso; contradiction) | (exfalso; exact hBr rfl) | skip)) | (refine br_seq_ ?_ ?_ <;> intro hBr <;> (first | (exfalso; omega) | (exfalso; contradiction) | (exfalso; exact hBr rfl) | skip)) | (refine br_not ?_) | (refine br_not_ ?_) | (refine br_and ?_) | (refine br_and_ ?_) | (refine And.intro (by omega) ?_) | (refine ⟨_, wrap_i64 (by omega), ?_⟩) | (refine ⟨_, wrap_u64 (by omega) (by omega), ?_⟩) | (refine ⟨_, wrap_u8 (by omega) (by omega), ?_⟩) | (refine ⟨_, wrap_u32 (by omega) (by omega), ?_⟩) | (refine ⟨_, wrap_u16 (by omega) (by omega), ?_⟩) | (refine ⟨_, rfl, ?_⟩) | (exact rfl)))
        exact ⟨⟨j + 1, _, _, _, by omega, hn.symm, hnew, hkn, by rw [ej], rfl⟩, hd⟩
    · have ht2 : ¬ (lasts : Int) + j - lasts = torn := by omega
      have ej2 : (lasts : Int) + j - lasts = (j : Int) := by omega
      rw [← ej2] at cj
      by_cases hb : j < 64 ∧ bitOf keep j = true
      · have hk1 : kept1 ⟨keep, torn, cut⟩ j (a, s) = [(a, s)] := (if_neg ht).trans (if_pos hb)
        rw [hk1] at hn
        have hap := app3_ok X a (bs s) (by omega)
        have hnew : C ++ [Z a, T s] = rwC (X ++ [(a, s)]) := by rw [hC, rwC_app]; rfl
        have hkn : k + 1 = (X ++ [(a, s)]).length := by rw [List.length_append, ← hkx]; rfl
        rw [← hC, ← hkx] at hap
        have e : (decide (j < 64) && bitOf keep j) = true := by rw [decide_eq_true hb.1, hb.2]; rfl
        rw [e] at cj
        clear ck hf hX hC hk1 hlen e hb hY hall
        repeat' ((try conv => whnf) <;> (first | (refine Hold.mk ?_) | (refine And.intro (fun _ => ?_) (fun h => Bool.noConfusion h)) | (refine And.intro (fun h => Bool.noConfusion h) (fun _ => ?_)) | (refine And.intro (Nat.le_of_ble_eq_true rfl) ?_) | (refine And.intro (fun _ => ?_) (fun h => Bool.noConfusion ((beq_self_eq_true _).symm.trans h))) | (refine And.intro (fun h => Bool.noConfusion ((bne_self_eq_false _).symm.trans h)) (fun _ => ?_)) | (refine And.intro (fun h => Bool.noConfusion ((beq_self_eq_true _).symm.trans h)) (fun _ => ?_)) | (refine And.intro (fun _ => ?_) (fun h => Bool.noConfusion ((bne_self_eq_false _).symm.trans h))) | (refine And.intro (show inR _ from ⟨by omega, by omega⟩) ?_) | (refine ⟨_, cj, ?_⟩) | (refine ⟨_, hwa, ?_⟩) | (refine ⟨true, ?_⟩) | (refine And.intro hap ?_) | (refine ⟨[], [0, 0, 2, 0, 14, 30, 62, 0, 128, 0, 896, 1920, 3968, 0, 16256, 32766, 65534, 131071, 262143], len_ok rfl (by kernel_rfl), ?_⟩) | (exact True.intro) | (refine And.intro (show eqT _ _ = true by kernel_rfl) ?_) | (refine And.intro rfl ?_) | (refine And.intro (And.intro (Nat.le_of_ble_eq_true rfl) rfl) ?_) | (refine And.intro (And.intro rfl rfl) ?_) | (refine And.intro (And.intro rfl (And.intro rfl rfl)) ?_) | (exact And.intro rfl (And.intro rfl rfl)) | (exact And.intro rfl rfl) | (refine br_lt ?_ ?_ <;> intro hBr <;> (first | (exfalso; omega) | (exfalso; contradiction) | (exfalso; exact hBr rfl) | skip)) | (refine br_lt_ ?_ ?_ <;> intro hBr <;> (first | (exfalso; omega) | (exfalso; contradiction) | (exfalso; exact hBr rfl) | skip)) | (refine br_le ?_ ?_ <;> intro hBr <;> (first | (exfalso; omega) | (exfalso; contradiction) | (exfalso; exact hBr rfl) | skip)) | (refine br_le_ ?_ ?_ <;> intro hBr <;> (first | (exfalso; omega) | (exfalso; contradiction) | (exfalso; exact hBr rfl) | skip)) | (refine br_eq ?_ ?_ <;> intro hBr <;> (first | (exfalso; omega) | (exfalso; contradiction) | (exfalso; exact hBr rfl) | skip)) | (refine br_eq_ ?_ ?_ <;> intro hBr <;> (first | (exfalso; omega) | (exfalso; contradiction) | (exfalso; exact hBr rfl) | skip)) | (refine br_seq ?_ ?_ <;> intro hBr <;> (first | (exfalso; omega) | (exfalso; contradiction) | (exfalso; exact hBr rfl) | skip)) | (refine br_seq_ ?_ ?_ <;> intro hBr <;> (first | (exfalso; omega) | (exfalso; contradiction) | (exfalso; exact hBr rfl) | skip)) | (refine br_not ?_) | (refine br_not_ ?_) | (refine br_and ?_) | (refine br_and_ ?_) | (refine And.intro (by omega) ?_) | (refine ⟨_, wrap_i64 (by omega), ?_⟩) | (refine ⟨_, wrap_u64 (by omega) (by omega), ?_⟩) | (refine ⟨_, wrap_u8 (by omega) (by omega), ?_⟩) | (refine ⟨_, wrap_u32 (by omega) (by omega), ?_⟩) | (refine ⟨_, wrap_u16 (by omega) (by omega), ?_⟩) | (refine ⟨_, rfl, ?_⟩) | (exact rfl)))
        exact ⟨⟨j + 1, _, _, _, by omega, hn.symm, hnew, hkn, by rw [ej], rfl⟩, hd⟩
      · have hk1 : kept1 ⟨keep, torn, cut⟩ j (a, s) = [] := (if_neg ht).trans (if_neg hb)
        rw [hk1, List.append_nil] at hn
        have e : (decide (j < 64) && bitOf keep j) = false := by
          by_cases h : j < 64
          · rw [decide_eq_true h, Bool.true_and]
            cases hh : bitOf keep j
            · rfl
            · exact absurd ⟨h, hh⟩ hb
          · rw [decide_eq_false h]; rfl
        rw [e] at cj
        clear ck hf hX hk1 hlen e hb hY hall
        repeat' ((try conv => whnf) <;> (first | (refine Hold.mk ?_) | (refine And.intro (fun _ => ?_) (fun h => Bool.noConfusion h)) | (refine And.intro (fun h => Bool.noConfusion h) (fun _ => ?_)) | (refine And.intro (Nat.le_of_ble_eq_true rfl) ?_) | (refine And.intro (fun _ => ?_) (fun h => Bool.noConfusion ((beq_self_eq_true _).symm.trans h))) | (refine And.intro (fun h => Bool.noConfusion ((bne_self_eq_false _).symm.trans h)) (fun _ => ?_)) | (refine And.intro (fun h => Bool.noConfusion ((beq_self_eq_true _).symm.trans h)) (fun _ => ?_)) | (refine And.intro (fun _ => ?_) (fun h => Bool.noConfusion ((bne_self_eq_false _).symm.trans h))) | (refine And.intro (show inR _ from ⟨by omega, by omega⟩) ?_) | (refine ⟨_, cj, ?_⟩) | (refine ⟨[], [0, 0, 2, 0, 14, 30, 62, 0, 128, 0, 896, 1920, 3968, 0, 16256, 32766, 65534, 131071, 262143], len_ok rfl (by kernel_rfl), ?_⟩) | (exact True.intro) | (refine And.intro (show eqT _ _ = true by kernel_rfl) ?_) | (refine And.intro rfl ?_) | (refine And.intro (And.intro (Nat.le_of_ble_eq_true rfl) rfl) ?_) | (refine And.intro (And.intro rfl rfl) ?_) | (refine And.intro (And.intro rfl (And.intro rfl rfl)) ?_) | (exact And.intro rfl (And.intro rfl rfl)) | (exact And.intro rfl rfl) | (refine br_lt ?_ ?_ <;> intro hBr <;> (first | (exfalso; omega) | (exfalso; contradiction) | (exfalso; exact hBr rfl) | skip)) | (refine br_lt_ ?_ ?_ <;> intro hBr <;> (first | (exfalso; omega) | (exfalso; contradiction) | (exfalso; exact hBr rfl) | skip)) | (refine br_le ?_ ?_ <;> intro hBr <;> (first | (exfalso; omega) | (exfalso; contradiction) | (exfalso; exact hBr rfl) | skip)) | (refine br_le_ ?_ ?_ <;> intro hBr <;> (first | (exfalso; omega) | (exfalso; contradiction) | (exfalso; exact hBr rfl) | skip)) | (refine br_eq ?_ ?_ <;> intro hBr <;> (first | (exfalso; omega) | (exfalso; contradiction) | (exfalso; exact hBr rfl) | skip)) | (refine br_eq_ ?_ ?_ <;> intro hBr <;> (first | (exfalso; omega) | (exfalso; contradiction) | (exfalso; exact hBr rfl) | skip)) | (refine br_seq ?_ ?_ <;> intro hBr <;> (first | (exfalso; omega) | (exfalso; contradiction) | (exfalso; exact hBr rfl) | skip)) | (refine br_seq_ ?_ ?_ <;> intro hBr <;> (first | (exfalso; omega) | (exfalso; contradiction) | (exfalso; exact hBr rfl) | skip)) | (refine br_not ?_) | (refine br_not_ ?_) | (refine br_and ?_) | (refine br_and_ ?_) | (refine And.intro (by omega) ?_) | (refine ⟨_, wrap_i64 (by omega), ?_⟩) | (refine ⟨_, wrap_u64 (by omega) (by omega), ?_⟩) | (refine ⟨_, wrap_u8 (by omega) (by omega), ?_⟩) | (refine ⟨_, wrap_u32 (by omega) (by omega), ?_⟩) | (refine ⟨_, wrap_u16 (by omega) (by omega), ?_⟩) | (refine ⟨_, rfl, ?_⟩) | (exact rfl)))
        exact ⟨⟨j + 1, _, _, _, by omega, hn.symm, hC, hkx, by rw [ej], rfl⟩, hd⟩
  · obtain rfl : j = l.length - lasts := by omega
    have hXY : X = Y := hX.trans hY.symm
    clear hX hY hall hlen hf ck
    subst hXY
    subst hkx
    subst hC
    repeat' ((try conv => whnf) <;> (first | (refine Hold.mk ?_) | (refine And.intro (fun _ => ?_) (fun h => Bool.noConfusion h)) | (refine And.intro (fun h => Bool.noConfusion h) (fun _ => ?_)) | (refine And.intro (Nat.le_of_ble_eq_true rfl) ?_) | (refine And.intro (fun _ => ?_) (fun h => Bool.noConfusion ((beq_self_eq_true _).symm.trans h))) | (refine And.intro (fun h => Bool.noConfusion ((bne_self_eq_false _).symm.trans h)) (fun _ => ?_)) | (refine And.intro (fun h => Bool.noConfusion ((beq_self_eq_true _).symm.trans h)) (fun _ => ?_)) | (refine And.intro (fun _ => ?_) (fun h => Bool.noConfusion ((bne_self_eq_false _).symm.trans h))) | (refine And.intro (show inR _ from ⟨by omega, by omega⟩) ?_) | (refine ⟨[], [0, 0, 2, 0, 14, 30, 62, 0, 128, 0, 896, 1920, 3968, 0, 16256, 32766, 65534, 131071, 262143], len_ok rfl (by kernel_rfl), ?_⟩) | (exact True.intro) | (refine And.intro (show eqT _ _ = true by kernel_rfl) ?_) | (refine And.intro rfl ?_) | (refine And.intro (And.intro (Nat.le_of_ble_eq_true rfl) rfl) ?_) | (refine And.intro (And.intro rfl rfl) ?_) | (refine And.intro (And.intro rfl (And.intro rfl rfl)) ?_) | (exact And.intro rfl (And.intro rfl rfl)) | (exact And.intro rfl rfl) | (refine br_lt ?_ ?_ <;> intro hBr <;> (first | (exfalso; omega) | (exfalso; contradiction) | (exfalso; exact hBr rfl) | skip)) | (refine br_lt_ ?_ ?_ <;> intro hBr <;> (first | (exfalso; omega) | (exfalso; contradiction) | (exfalso; exact hBr rfl) | skip)) | (refine br_le ?_ ?_ <;> intro hBr <;> (first | (exfalso; omega) | (exfalso; contradiction) | (exfalso; exact hBr rfl) | skip)) | (refine br_le_ ?_ ?_ <;> intro hBr <;> (first | (exfalso; omega) | (exfalso; contradiction) | (exfalso; exact hBr rfl) | skip)) | (refine br_eq ?_ ?_ <;> intro hBr <;> (first | (exfalso; omega) | (exfalso; contradiction) | (exfalso; exact hBr rfl) | skip)) | (refine br_eq_ ?_ ?_ <;> intro hBr <;> (first | (exfalso; omega) | (exfalso; contradiction) | (exfalso; exact hBr rfl) | skip)) | (refine br_seq ?_ ?_ <;> intro hBr <;> (first | (exfalso; omega) | (exfalso; contradiction) | (exfalso; exact hBr rfl) | skip)) | (refine br_seq_ ?_ ?_ <;> intro hBr <;> (first | (exfalso; omega) | (exfalso; contradiction) | (exfalso; exact hBr rfl) | skip)) | (refine br_not ?_) | (refine br_not_ ?_) | (refine br_and ?_) | (refine br_and_ ?_) | (refine And.intro (by omega) ?_) | (refine ⟨_, wrap_i64 (by omega), ?_⟩) | (refine ⟨_, wrap_u64 (by omega) (by omega), ?_⟩) | (refine ⟨_, wrap_u8 (by omega) (by omega), ?_⟩) | (refine ⟨_, wrap_u32 (by omega) (by omega), ?_⟩) | (refine ⟨_, wrap_u16 (by omega) (by omega), ?_⟩) | (refine ⟨_, rfl, ?_⟩) | (exact rfl)))
end Go.Proofs.Ytdjdcpbakeahcaa.Av
