/- shelf: the law ShelfLays holds of any ops, sectors and numbers. No conditions. -/
import Derived.Test.YtbaedepmogkkeaaGreatTree9
import Derived.Test.YtbaedepmogkkeaaGreatTree13
import Derived.Test.YtbaedepmogkkeaaGreatShP
import Derived.Test.YtbaedepmogkkeaaGreatNumSnd
import Derived.Test.YtbaedepmogkkeaaGreatStamp1
import Derived.Test.YtbaedepmogkkeaaGreatScans1
import Derived.Test.YtbaedepmogkkeaaGreatScanNumSnd
import Derived.Test.YtbaedepmogkkeaaGreatLibSnd
import Derived.Test.YtbaedepmogkkeaaGreatOpen2
import Derived.Test.YtbaedepmogkkeaaGreatAuto
import Derived.Test.YtbaedepmogkkeaaGreatSnd
namespace Go.Proofs.YtbaedepmogkkeaaGreat.Av
open Go Go.RowKit Tre
set_option linter.unusedVariables false
set_option linter.unusedSimpArgs false
set_option maxRecDepth 100000

/-- the place of a key: the first one that is not less -/
def posL (k : Key) : List Pr → Nat
  | [] => 0
  | a :: l => if lt a.1 k = true then posL k l + 1 else 0
theorem posL_le (k : Key) : ∀ l : List Pr, posL k l ≤ l.length
  | [] => Nat.le_refl _
  | a :: l => by have := posL_le k l; unfold posL; split <;> simp <;> omega
theorem posL_lt (k : Key) : ∀ (l : List Pr) (i : Nat) (h : i < l.length), i < posL k l → lt (l[i]).1 k = true
  | a :: l, i, h, hp => by
    unfold posL at hp
    by_cases ha : lt a.1 k = true
    · rw [if_pos ha] at hp
      cases i with
      | zero => exact ha
      | succ i => exact posL_lt k l i (by simpa using h) (by omega)
    · rw [if_neg ha] at hp; omega
theorem posL_at (k : Key) : ∀ (l : List Pr) (h : posL k l < l.length), lt (l[posL k l]).1 k = false
  | a :: l, h => by
    generalize hq : posL k (a :: l) = q at h
    unfold posL at hq
    by_cases ha : lt a.1 k = true
    · rw [if_pos ha] at hq
      subst hq
      exact posL_at k l (by simpa using h)
    · rw [if_neg ha] at hq
      subst hq
      simpa using ha
theorem putL_take (k v : Key) (l : List Pr) : putL k v l = l.take (posL k l) ++ putL k v (l.drop (posL k l)) := by
  conv => lhs; rw [← List.take_append_drop (posL k l) l]
  refine putL_less _ fun a ha => ?_
  obtain ⟨i, hi, rfl⟩ := List.getElem_of_mem ha
  rw [List.length_take] at hi
  rw [List.getElem_take]
  exact posL_lt k l i (by omega) (by omega)
theorem putL_eq {k v : Key} {l : List Pr} (h : posL k l < l.length) (he : (l[posL k l]).1 = k) : putL k v l = l.take (posL k l) ++ (k, v) :: l.drop (posL k l + 1) := by
  rw [putL_take, List.drop_eq_getElem_cons h]
  congr 1
  generalize l[posL k l] = q at he
  obtain ⟨a, b⟩ := q
  simp only at he
  subst he
  exact putL_same
theorem putL_ne {k v : Key} {l : List Pr} (h : ∀ h : posL k l < l.length, (l[posL k l]).1 ≠ k) : putL k v l = l.take (posL k l) ++ (k, v) :: l.drop (posL k l) := by
  rw [putL_take]
  congr 1
  by_cases hp : posL k l < l.length
  · rw [List.drop_eq_getElem_cons hp]
    have h1 := posL_at k l hp
    have h2 := h hp
    generalize l[posL k l] = q at h1 h2
    obtain ⟨a, b⟩ := q
    unfold putL
    rw [if_neg (by simp only at h1; rw [h1]; decide), if_neg h2]
  · rw [List.drop_of_length_le (by omega)]; rfl
noncomputable abbrev tkA (l : List Pr) (p : Nat) : List AV := takeL (prC l) (mulS (0 : Int).toNat (sizeT Tryz.prog 212)) (mulS ((p : Int).toNat - (0 : Int).toNat) (sizeT Tryz.prog 212))
noncomputable abbrev dpA (l : List Pr) (n : Nat) (q : Int) : List AV := takeL (prC l) (mulS q.toNat (sizeT Tryz.prog 212)) (mulS ((n : Int).toNat - q.toNat) (sizeT Tryz.prog 212))
theorem dpA_eq (l : List Pr) (n : Nat) (q : Int) (i : Nat) (hq : q = (i : Int)) (hn : l.length = n) (hi : i ≤ n) : dpA l n q = prC (l.drop i) := by
  subst hq; exact prC_drop l i n hn hi
theorem pput_fin (l : List Pr) (k v : Key) (p n i : Nat) (q : Int) (R : List Pr) (hn : l.length = n) (hp : p ≤ n) (hq : q = (i : Int)) (hi : i ≤ n) (hR : R = l.take p ++ (k, v) :: l.drop i) :
    AV.vs (0 + ((p : Int).toNat - (0 : Int).toNat) + 1 + ((n : Int).toNat - q.toNat)) ([] ++ tkA l p ++ [T k, T v] ++ dpA l n q) = .vs R.length (prC R) := by
  rw [dpA_eq l n q i hq hn hi, show tkA l p = prC (l.take p) from prC_take l p, hR, hq]
  congr 1
  · simp only [Int.toNat_natCast, Int.toNat_zero, List.length_append, List.length_cons, List.length_take, List.length_drop]; omega
  · rw [prC_app]; simp [prC]
theorem pput_ok (l : List Pr) (k v : Key) (hl : l.length ≤ 1000000) : SP 115 [.vs l.length (prC l), T k, T v] (.vs (putL k v l).length (prC (putL k v l))) := by
  obtain ⟨R, hR⟩ : ∃ R, R = putL k v l := ⟨_, rfl⟩
  rw [← hR]
  obtain ⟨p, hp⟩ : ∃ p, p = posL k l := ⟨_, rfl⟩
  have hple := posL_le k l
  have hplt := posL_lt k l
  have hpat := posL_at k l
  have heq := putL_eq (k := k) (v := v) (l := l)
  have hne := putL_ne (k := k) (v := v) (l := l)
  rw [← hR] at heq hne
  simp only [← hp] at hple hplt hpat heq hne
  obtain ⟨n, hn⟩ : ∃ n, l.length = n := ⟨_, rfl⟩
  simp only [hn] at hple hplt hpat heq hne hl ⊢
  have hroom : n * sizeT Tryz.prog 212 ≤ (prC l).length := by rw [prC_len, hsP, hn]; omega
  have htk : tkA l p = prC (l.take p) := prC_take l p
  have hs := hsP
  have a1 : ([] : List AV).length = 0 * sizeT Tryz.prog 212 := by simp
  have b1 : (tkA l p).length = ((p : Int).toNat - (0 : Int).toNat) * sizeT Tryz.prog 212 ∧ ∀ u ∈ tkA l p, one1 u = true := by
    rw [htk]
    refine ⟨?_, one_pr _⟩
    rw [prC_len, hs, List.length_take, hn]; simp; omega
  have a2 : ([] ++ tkA l p).length = (0 + ((p : Int).toNat - (0 : Int).toNat)) * sizeT Tryz.prog 212 := by rw [List.nil_append, b1.1, Nat.zero_add]
  have b2 := pre2 k v
  have a3 : ([] ++ tkA l p ++ [T k, T v]).length = (0 + ((p : Int).toNat - (0 : Int).toNat) + 1) * sizeT Tryz.prog 212 := by rw [List.length_append, a2, Nat.add_mul (0 + _) 1, b2.1]
  have b3 : ∀ (q : Int) (i : Nat), q = (i : Int) → i ≤ n → (dpA l n q).length = ((n : Int).toNat - q.toNat) * sizeT Tryz.prog 212 ∧ ∀ u ∈ dpA l n q, one1 u = true := by
    intro q i hq hi
    rw [dpA_eq l n q i hq hn hi, hq]
    refine ⟨?_, one_pr _⟩
    rw [prC_len, hs, List.length_drop, hn]; simp
  refine S_ Tryz.func115 (by kernel_rfl) rfl (Nat.le_of_ble_eq_true rfl) ?_
  show avc Tryz.prog SP _ _ _ _ _ _
  dsimp only [avc, startS, Array.toList, Tryz.f115]
  refine Av.Wk ?_
  refine ⟨[7, 0, 1, 2], [], fun vs bl => ∃ i : Nat, i ≤ p ∧ (vs = [Z i, .vs n (prC l), T k, T v] ∧ bl = []), muI n, ?_, ?_⟩
  · exact ⟨0, by omega, rfl, rfl⟩
  rintro vs bl ⟨i, hi, rfl, rfl⟩
  by_cases hip : i < p
  · have hin : i < l.length := by omega
    have h1 := prK hin
    have hb : ltB (l[i]).1 k = true := by rw [ltB_eq]; exact hplt i (by omega) hip
    have hdec := mu_I (n := n) (i := i) (by omega)
    clear hR heq hne hplt hpat
    refine Av.Wk ?_
    exact ⟨⟨i + 1, by omega, rfl, rfl⟩, hdec _ _ _ _⟩
  · obtain rfl : i = p := by omega
    by_cases hpn : i < n
    · have hin : i < l.length := by omega
      have h1 := prK hin
      have hb : ltB (l[i]).1 k = false := by rw [ltB_eq]; exact hpat hpn
      have he2 := eqT_ (l[i]).1 k
      by_cases he : (l[i]).1 = k
      · rw [decide_eq_true he] at he2
        have hf := pput_fin l k v i n (i + 1) ((i : Int) + 1) R hn hple rfl (by omega) (heq hpn he)
        have b4 := b3 ((i : Int) + 1) (i + 1) rfl (by omega)
        clear hR heq hne hplt hpat b3
        repeat' ((try conv => whnf) <;> first | refine Av.hm_ ?_ | refine Av.w1 ?_ | refine Av.w2 ?_ | refine Av.w3 ?_ | refine Av.w4 ?_ | refine Av.nle rfl ?_ | refine Av.q1 ?_ | refine Av.q2 ?_ | refine Av.q3 ?_ | refine Av.q4 ?_ | refine Av.inr_ (by omega) (by omega) ?_ | (refine ⟨_, h1, ?_⟩) | (refine br_f hb ?_) | (refine br_t he2 ?_) | (refine ⟨false, ?_⟩) | (refine And.intro ⟨by omega, by omega, by omega, hroom⟩ ?_) | (refine And.intro ⟨room_p (by omega), a1, b1⟩ ?_) | (refine And.intro ⟨room_p (by omega), a2, b2⟩ ?_) | (refine And.intro ⟨room_p (by omega), a3, b4⟩ ?_) | exact True.intro | refine Av.eqt_ (by kernel_rfl) ?_ | refine ⟨rfl, ?_⟩ | refine ⟨⟨Nat.le_of_ble_eq_true rfl, rfl⟩, ?_⟩ | refine ⟨⟨rfl, rfl⟩, ?_⟩ | refine ⟨⟨rfl, rfl, rfl⟩, ?_⟩ | exact ⟨rfl, rfl, rfl⟩ | exact ⟨rfl, rfl⟩ | ((first | refine br_lt ?_ ?_ | refine br_lt_ ?_ ?_ | refine br_le ?_ ?_ | refine br_le_ ?_ ?_ | refine br_eq ?_ ?_ | refine br_eq_ ?_ ?_ | refine br_seq ?_ ?_ | refine br_seq_ ?_ ?_) <;> intro hBr <;> first | (exfalso; omega) | (exfalso; contradiction) | (exfalso; exact hBr rfl) | skip) | refine br_not ?_ | refine br_not_ ?_ | refine br_and ?_ | refine br_and_ ?_ | refine Av.asm_ (by omega) ?_ | refine ⟨_, wrap_i64 (by omega), ?_⟩ | refine ⟨_, wrap_u64 (by omega) (by omega), ?_⟩ | refine ⟨_, wrap_u8 (by omega) (by omega), ?_⟩ | refine ⟨_, wrap_u32 (by omega) (by omega), ?_⟩ | refine ⟨_, wrap_u16 (by omega) (by omega), ?_⟩ | refine ⟨_, rfl, ?_⟩ | exact rfl)
        exact hf
      · rw [decide_eq_false he] at he2
        have hf := pput_fin l k v i n i (i : Int) R hn hple rfl (by omega) (hne fun _ => he)
        have b4 := b3 (i : Int) i rfl (by omega)
        clear hR heq hne hplt hpat b3
        repeat' ((try conv => whnf) <;> first | refine Av.hm_ ?_ | refine Av.w1 ?_ | refine Av.w2 ?_ | refine Av.w3 ?_ | refine Av.w4 ?_ | refine Av.nle rfl ?_ | refine Av.q1 ?_ | refine Av.q2 ?_ | refine Av.q3 ?_ | refine Av.q4 ?_ | refine Av.inr_ (by omega) (by omega) ?_ | (refine ⟨_, h1, ?_⟩) | (refine br_f hb ?_) | (refine br_f he2 ?_) | (refine ⟨false, ?_⟩) | (refine And.intro ⟨by omega, by omega, by omega, hroom⟩ ?_) | (refine And.intro ⟨room_p (by omega), a1, b1⟩ ?_) | (refine And.intro ⟨room_p (by omega), a2, b2⟩ ?_) | (refine And.intro ⟨room_p (by omega), a3, b4⟩ ?_) | exact True.intro | refine Av.eqt_ (by kernel_rfl) ?_ | refine ⟨rfl, ?_⟩ | refine ⟨⟨Nat.le_of_ble_eq_true rfl, rfl⟩, ?_⟩ | refine ⟨⟨rfl, rfl⟩, ?_⟩ | refine ⟨⟨rfl, rfl, rfl⟩, ?_⟩ | exact ⟨rfl, rfl, rfl⟩ | exact ⟨rfl, rfl⟩ | ((first | refine br_lt ?_ ?_ | refine br_lt_ ?_ ?_ | refine br_le ?_ ?_ | refine br_le_ ?_ ?_ | refine br_eq ?_ ?_ | refine br_eq_ ?_ ?_ | refine br_seq ?_ ?_ | refine br_seq_ ?_ ?_) <;> intro hBr <;> first | (exfalso; omega) | (exfalso; contradiction) | (exfalso; exact hBr rfl) | skip) | refine br_not ?_ | refine br_not_ ?_ | refine br_and ?_ | refine br_and_ ?_ | refine Av.asm_ (by omega) ?_ | refine ⟨_, wrap_i64 (by omega), ?_⟩ | refine ⟨_, wrap_u64 (by omega) (by omega), ?_⟩ | refine ⟨_, wrap_u8 (by omega) (by omega), ?_⟩ | refine ⟨_, wrap_u32 (by omega) (by omega), ?_⟩ | refine ⟨_, wrap_u16 (by omega) (by omega), ?_⟩ | refine ⟨_, rfl, ?_⟩ | exact rfl)
        exact hf
    · have hf := pput_fin l k v i n i (i : Int) R hn hple rfl (by omega) (hne fun h => absurd h hpn)
      have b4 := b3 (i : Int) i rfl (by omega)
      clear hR heq hne hplt hpat b3
      repeat' ((try conv => whnf) <;> first | refine Av.hm_ ?_ | refine Av.w1 ?_ | refine Av.w2 ?_ | refine Av.w3 ?_ | refine Av.w4 ?_ | refine Av.nle rfl ?_ | refine Av.q1 ?_ | refine Av.q2 ?_ | refine Av.q3 ?_ | refine Av.q4 ?_ | refine Av.inr_ (by omega) (by omega) ?_ | (refine ⟨false, ?_⟩) | (refine And.intro ⟨by omega, by omega, by omega, hroom⟩ ?_) | (refine And.intro ⟨room_p (by omega), a1, b1⟩ ?_) | (refine And.intro ⟨room_p (by omega), a2, b2⟩ ?_) | (refine And.intro ⟨room_p (by omega), a3, b4⟩ ?_) | exact True.intro | refine Av.eqt_ (by kernel_rfl) ?_ | refine ⟨rfl, ?_⟩ | refine ⟨⟨Nat.le_of_ble_eq_true rfl, rfl⟩, ?_⟩ | refine ⟨⟨rfl, rfl⟩, ?_⟩ | refine ⟨⟨rfl, rfl, rfl⟩, ?_⟩ | exact ⟨rfl, rfl, rfl⟩ | exact ⟨rfl, rfl⟩ | ((first | refine br_lt ?_ ?_ | refine br_lt_ ?_ ?_ | refine br_le ?_ ?_ | refine br_le_ ?_ ?_ | refine br_eq ?_ ?_ | refine br_eq_ ?_ ?_ | refine br_seq ?_ ?_ | refine br_seq_ ?_ ?_) <;> intro hBr <;> first | (exfalso; omega) | (exfalso; contradiction) | (exfalso; exact hBr rfl) | skip) | refine br_not ?_ | refine br_not_ ?_ | refine br_and ?_ | refine br_and_ ?_ | refine Av.asm_ (by omega) ?_ | refine ⟨_, wrap_i64 (by omega), ?_⟩ | refine ⟨_, wrap_u64 (by omega) (by omega), ?_⟩ | refine ⟨_, wrap_u8 (by omega) (by omega), ?_⟩ | refine ⟨_, wrap_u32 (by omega) (by omega), ?_⟩ | refine ⟨_, wrap_u16 (by omega) (by omega), ?_⟩ | refine ⟨_, rfl, ?_⟩ | exact rfl)
      exact hf
end Go.Proofs.YtbaedepmogkkeaaGreat.Av
namespace Go.Proofs.YtbaedepmogkkeaaGreat.Av
open Go Go.RowKit Tre
set_option linter.unusedVariables false
set_option linter.unusedSimpArgs false
set_option maxRecDepth 100000

theorem mem_putL {k v : Key} : ∀ {l : List Pr} {x : Pr}, x ∈ putL k v l → x = (k, v) ∨ x ∈ l
  | [], x, hx => by simp [putL] at hx; exact .inl hx
  | (c, d) :: l, x, hx => by
    unfold putL at hx
    split at hx
    · rcases List.mem_cons.1 hx with rfl | hx
      · right; simp
      · rcases mem_putL hx with h | h
        · exact .inl h
        · exact .inr (List.mem_cons_of_mem _ h)
    · split at hx
      · rcases List.mem_cons.1 hx with rfl | hx
        · exact .inl rfl
        · exact .inr (List.mem_cons_of_mem _ hx)
      · rcases List.mem_cons.1 hx with rfl | hx
        · exact .inl rfl
        · exact .inr hx
theorem hsRt : sizeT Tryz.prog 124 = 3 := by kernel_rfl
theorem opR0 {os : List OpP} {i : Nat} (h : i < os.length) : (opC os)[mulS (i : Int).toNat (sizeT Tryz.prog 124) + 0]? = some (.ex (.int .u8 (os[i]).1)) := by
  rw [hsRt, mulS_eq, Int.toNat_natCast]; exact opC_at h 0 _ rfl
theorem opR1 {os : List OpP} {i : Nat} (h : i < os.length) : (opC os)[mulS (i : Int).toNat (sizeT Tryz.prog 124) + 1]? = some (T (os[i]).2.1) := by
  rw [hsRt, mulS_eq, Int.toNat_natCast]; exact opC_at h 1 _ rfl
theorem opR2 {os : List OpP} {i : Nat} (h : i < os.length) : (opC os)[mulS (i : Int).toNat (sizeT Tryz.prog 124) + 2]? = some (T (os[i]).2.2) := by
  rw [hsRt, mulS_eq, Int.toNat_natCast]; exact opC_at h 2 _ rfl
theorem opRW {os : List OpP} {i : Nat} (h : i < os.length) : ([.ex (.int .u8 (os[i]).1), T (os[i]).2.1, T (os[i]).2.2] : List AV).length = sizeT Tryz.prog 124 ∧ ∀ j v, ([.ex (.int .u8 (os[i]).1), T (os[i]).2.1, T (os[i]).2.2] : List AV)[j]? = some v → (opC os)[mulS (i : Int).toNat (sizeT Tryz.prog 124) + j]? = some v := by
  rw [hsRt, mulS_eq, Int.toNat_natCast]
  exact ⟨rfl, opC_at h⟩
/-- a list that has room for so many more -/
def PrsN (n : Nat) (l : List Pr) : Prop := l.length + n ≤ 1000000 ∧ ∀ p ∈ l, p.1.length ≤ 1000000000 ∧ p.2.length ≤ 1000000000
theorem PrsN.ok {n : Nat} {l : List Pr} (h : PrsN n l) : PrsOk l := ⟨by have := h.1; omega, h.2⟩
theorem PrsN.step {n : Nat} {l : List Pr} (h : PrsN (n + 1) l) (o : OpP) (hk : o.2.1.length ≤ 1000000000) (hv : o.2.2.length ≤ 1000000000) : PrsN n (stepL o l) := by
  have hs := stepL_len o l
  have h1 := h.1
  refine ⟨by omega, fun p hp => ?_⟩
  unfold stepL at hp
  split at hp
  · rcases mem_putL hp with rfl | hp
    · exact ⟨hk, hv⟩
    · exact h.2 p hp
  · split at hp
    · exact h.2 p (List.mem_filter.1 hp).1
    · split at hp
      · exact h.2 p (List.mem_filter.1 hp).1
      · exact h.2 p hp
theorem applyL_drop (os : List OpP) (i : Nat) (h : i < os.length) (l : List Pr) : applyL (os.drop i) l = applyL (os.drop (i + 1)) (stepL os[i] l) := by
  rw [List.drop_eq_getElem_cons h]; rfl
theorem papply_ok (l : List Pr) (os : List OpP) (hl : PrsN os.length l) (ho : ∀ o ∈ os, o.2.1.length ≤ 1000000000 ∧ o.2.2.length ≤ 1000000000) (res : List Pr) (hres : applyL os l = res) :
    SP 49 [.vs l.length (prC l), .vs os.length (opC os)] (.vs res.length (prC res)) := by
  have hn := hl.1
  refine S_ Tryz.func49 (by kernel_rfl) rfl (Nat.le_of_ble_eq_true rfl) ?_
  show avc Tryz.prog SP _ _ _ _ _ _
  dsimp only [avc, startS, Array.toList, Tryz.f49]
  have hW0 : Av.Mk 13 [0,0,0,6,14,30,0,0,192,448,960,2047,4095] := ⟨⟩
  refine Av.Wk ?_
  refine ⟨[5, 0, 1], [], fun vs bl => ∃ (i : Nat) (s : List Pr), i ≤ os.length ∧ PrsN (os.length - i) s ∧ applyL (os.drop i) s = res ∧ (vs = [Z i, .vs s.length (prC s), .vs os.length (opC os)] ∧ bl = []), muI os.length, ?_, ?_⟩
  · exact ⟨0, l, by omega, hl, by rw [List.drop_zero]; exact hres, rfl, rfl⟩
  rintro vs bl ⟨i, s, hi, hs, hr, rfl, rfl⟩
  by_cases hlt : i < os.length
  · have h0 := opR0 hlt
    have h1 := opR1 hlt
    have h2 := opR2 hlt
    have hz := ho _ (List.getElem_mem hlt)
    have hs2 : PrsN (os.length - (i + 1)) (stepL os[i] s) := PrsN.step (by rw [show os.length - (i + 1) + 1 = os.length - i by omega]; exact hs) _ hz.1 hz.2
    rw [applyL_drop os i hlt s] at hr
    have hdec := mu_I hlt
    have hsl := hs.1
    clear hres ho hl
    generalize os[i] = o at h0 h1 h2 hs2 hr hz
    by_cases k1 : o.1 = 1
    · have e : stepL o s = putL o.2.1 o.2.2 s := if_pos k1
      rw [e] at hr hs2
      have c := pput_ok s o.2.1 o.2.2 hs.ok.1
      rw [k1] at h0
      have hW1 : Av.Mk 13 [0,0,0,6,14,30,0,0,192,448,960,2047,4095] := ⟨⟩
      refine Av.Wk ?_
      exact ⟨⟨i + 1, _, by omega, hs2, hr, rfl, rfl⟩, hdec _ _ _ _⟩
    · by_cases k2 : o.1 = 2
      · have e : stepL o s = delL o.2.1 s := (if_neg k1).trans (if_pos k2)
        rw [e] at hr hs2
        have c := pdel_ok s o.2.1 hs.ok
        rw [k2] at h0
        have hW2 : Av.Mk 13 [0,0,0,6,14,30,0,0,192,448,960,2047,4095] := ⟨⟩
        refine Av.Wk ?_
        exact ⟨⟨i + 1, _, by omega, hs2, hr, rfl, rfl⟩, hdec _ _ _ _⟩
      · by_cases k3 : o.1 = 3
        · have e : stepL o s = dropL o.2.1 s := (if_neg k1).trans ((if_neg k2).trans (if_pos k3))
          rw [e] at hr hs2
          have c := pdrop_ok s o.2.1 hs.ok (by omega)
          rw [k3] at h0
          have hW3 : Av.Mk 13 [0,0,0,6,14,30,0,0,192,448,960,2047,4095] := ⟨⟩
          refine Av.Wk ?_
          exact ⟨⟨i + 1, _, by omega, hs2, hr, rfl, rfl⟩, hdec _ _ _ _⟩
        · have e : stepL o s = s := (if_neg k1).trans ((if_neg k2).trans (if_neg k3))
          rw [e] at hr hs2
          have hW4 : Av.Mk 13 [0,0,0,6,14,30,0,0,192,448,960,2047,4095] := ⟨⟩
          refine Av.Wk ?_
          exact ⟨⟨i + 1, _, by omega, hs2, hr, rfl, rfl⟩, hdec _ _ _ _⟩
  · obtain rfl : i = os.length := by omega
    rw [List.drop_length] at hr
    have : res = s := hr.symm
    subst this
    clear hres hr
    have hW5 : Av.Mk 13 [0,0,0,6,14,30,0,0,192,448,960,2047,4095] := ⟨⟩
    exact Av.W
theorem papply_nil (os : List OpP) (hn : os.length ≤ 1000000) (ho : ∀ o ∈ os, o.2.1.length ≤ 1000000000 ∧ o.2.2.length ≤ 1000000000) (res : List Pr) (hres : applyL os [] = res) :
    SP 49 [nilA, .vs os.length (opC os)] (.vs res.length (prC res)) := by
  refine Sound.weak (papply_ok [] os ⟨by simpa using hn, fun p h => by cases h⟩ ho res hres) rfl fun w F j h1 h2 x hx => ?_
  match j, h1 with
  | 0, _ => have := hx.ex_inv; subst this; exact .vnil _
  | 1, _ => exact hx
/-! ### ops -/
/-- too many, or too long -/
def Over13 (os : List OpP) : Prop := 50 < os.length ∨ ∃ o ∈ os, 150 < o.2.1.length ∨ 1000 < o.2.2.length
theorem over13_no {os : List OpP} (h : ¬ Over13 os) : SP 10 [.vs os.length (opC os)] (Z 0) := by
  have hn : os.length ≤ 50 := by apply Classical.byContradiction; intro e; exact h (.inl (by omega))
  refine S_ Tryz.func10 (by kernel_rfl) rfl (Nat.le_of_ble_eq_true rfl) ?_
  show avc Tryz.prog SP _ _ _ _ _ _
  dsimp only [avc, startS, Array.toList, Tryz.f10]
  refine Av.Wk ?_
  refine ⟨[3, 0], [], fun vs bl => ∃ i : Nat, i ≤ os.length ∧ (vs = [Z i, .vs os.length (opC os)] ∧ bl = []), muI os.length, ?_, ?_⟩
  · exact ⟨0, by omega, rfl, rfl⟩
  rintro vs bl ⟨i, hi, rfl, rfl⟩
  by_cases hlt : i < os.length
  · have h1 := opR1 hlt
    have h2 := opR2 hlt
    have hdec := mu_I hlt
    have hz : (bs (os[i]).2.1).size ≤ 150 ∧ (bs (os[i]).2.2).size ≤ 1000 := by
      rw [bs_size, bs_size]
      apply Classical.byContradiction
      intro e
      exact h (.inr ⟨_, List.getElem_mem hlt, by omega⟩)
    clear h
    refine Av.Wk ?_
    exact ⟨⟨i + 1, by omega, rfl, rfl⟩, hdec _ _ _ _⟩
  · obtain rfl : i = os.length := by omega
    clear h
    exact Av.W
theorem over13_yes {os : List OpP} (hl : os.length ≤ 9223372036854775807) (h : Over13 os) : SP 10 [.vs os.length (opC os)] (Z 1) := by
  by_cases hn : 50 < os.length
  · refine S_ Tryz.func10 (by kernel_rfl) rfl (Nat.le_of_ble_eq_true rfl) ?_ -- G
    exact Av.W
  · have hex : ∃ i, ∃ h : i < os.length, 150 < (os[i]).2.1.length ∨ 1000 < (os[i]).2.2.length := by
      rcases h with h | ⟨o, ho, h⟩
      · exact absurd h hn
      · obtain ⟨i, hi, rfl⟩ := List.getElem_of_mem ho
        exact ⟨i, hi, h⟩
    obtain ⟨k, hk, hb⟩ := hex
    have hb2 : 150 < (bs (os[k]).2.1).size ∨ 1000 < (bs (os[k]).2.2).size := by rw [bs_size, bs_size]; exact hb
    clear h hb
    refine S_ Tryz.func10 (by kernel_rfl) rfl (Nat.le_of_ble_eq_true rfl) ?_
    show avc Tryz.prog SP _ _ _ _ _ _
    dsimp only [avc, startS, Array.toList, Tryz.f10]
    refine Av.Wk ?_
    refine ⟨[3, 0], [], fun vs bl => ∃ i : Nat, i ≤ k ∧ (vs = [Z i, .vs os.length (opC os)] ∧ bl = []), muI os.length, ?_, ?_⟩
    · exact ⟨0, by omega, rfl, rfl⟩
    rintro vs bl ⟨i, hi, rfl, rfl⟩
    have hlt : i < os.length := by omega
    have h1 := opR1 hlt
    have h2 := opR2 hlt
    have hdec := mu_I hlt
    by_cases hik : i < k
    · by_cases hz : 150 < (bs (os[i]).2.1).size
      · exact Av.W
      · by_cases hz2 : 1000 < (bs (os[i]).2.2).size
        · exact Av.W
        · refine Av.Wk ?_
          exact ⟨⟨i + 1, by omega, rfl, rfl⟩, hdec _ _ _ _⟩
    · obtain rfl : i = k := by omega
      exact Av.W
theorem one_op (os : List OpP) : ∀ v ∈ opC os, one1 v = true := by
  intro v hv
  obtain ⟨p, _, hp⟩ := List.mem_flatMap.1 hv
  simp only [List.mem_cons, List.not_mem_nil, or_false] at hp
  rcases hp with rfl | rfl | rfl <;> rfl
theorem room_o {k : Nat} (hk : k ≤ 1000000000000) : room k (bytesT Tryz.prog 82) := by
  rw [show bytesT Tryz.prog 82 = 40 by kernel_rfl]; unfold room; omega
theorem opC_app (a b : List OpP) : opC (a ++ b) = opC a ++ opC b := by simp [opC]
theorem own13_ok (os : List OpP) (hn : os.length ≤ 1000000) : SP 44 [.vs os.length (opC os)] (.vs os.length (opC os)) := by
  refine S_ Tryz.func44 (by kernel_rfl) rfl (Nat.le_of_ble_eq_true rfl) ?_
  show avc Tryz.prog SP _ _ _ _ _ _
  dsimp only [avc, startS, Array.toList, Tryz.f44]
  refine Av.Wk ?_
  refine ⟨[4, 3, 0], [(3, some 82)], fun vs bl => ∃ (i : Nat) (D : List AV), i ≤ os.length ∧ D = opC (os.take i) ∧ (vs = [Z i, .sl 0 i, .vs os.length (opC os)] ∧ bl = [⟨D, some 82, false, true⟩]), muI os.length, ?_, ?_⟩
  · exact ⟨0, [], by omega, rfl, rfl, rfl⟩
  rintro vs bl ⟨i, D, hi, hD, rfl, rfl⟩
  have hDl : D.length = i * sizeT Tryz.prog 82 := by rw [hD, opC_len, hsO, List.length_take]; omega
  by_cases hlt : i < os.length
  · have h1 := opRW hlt
    have hdec := mu_I hlt
    have b2 : ([.ex (.int .u8 (os[i]).1), T (os[i]).2.1, T (os[i]).2.2] : List AV).length = 1 * sizeT Tryz.prog 82 ∧ ∀ v ∈ ([.ex (.int .u8 (os[i]).1), T (os[i]).2.1, T (os[i]).2.2] : List AV), one1 v = true := by
      rw [hsO]; exact ⟨rfl, one_op [os[i]]⟩
    have hs : D ++ [.ex (.int .u8 (os[i]).1), T (os[i]).2.1, T (os[i]).2.2] = opC (os.take (i + 1)) := by
      rw [List.take_add_one, List.getElem?_eq_getElem hlt, opC_app, hD]; rfl
    repeat' ((try conv => whnf) <;> first | refine Av.hm_ ?_ | refine Av.w1 ?_ | refine Av.w2 ?_ | refine Av.w3 ?_ | refine Av.w4 ?_ | refine Av.nle rfl ?_ | refine Av.q1 ?_ | refine Av.q2 ?_ | refine Av.q3 ?_ | refine Av.q4 ?_ | refine Av.inr_ (by omega) (by omega) ?_ | (refine ⟨_, h1, ?_⟩) | (refine ⟨false, ?_⟩) | (refine And.intro ⟨room_o (by omega), hDl, b2⟩ ?_) | exact True.intro | refine Av.eqt_ (by kernel_rfl) ?_ | refine ⟨rfl, ?_⟩ | refine ⟨⟨Nat.le_of_ble_eq_true rfl, rfl⟩, ?_⟩ | refine ⟨⟨rfl, rfl⟩, ?_⟩ | refine ⟨⟨rfl, rfl, rfl⟩, ?_⟩ | exact ⟨rfl, rfl, rfl⟩ | exact ⟨rfl, rfl⟩ | ((first | refine br_lt ?_ ?_ | refine br_lt_ ?_ ?_ | refine br_le ?_ ?_ | refine br_le_ ?_ ?_ | refine br_eq ?_ ?_ | refine br_eq_ ?_ ?_ | refine br_seq ?_ ?_ | refine br_seq_ ?_ ?_) <;> intro hBr <;> first | (exfalso; omega) | (exfalso; contradiction) | (exfalso; exact hBr rfl) | skip) | refine br_not ?_ | refine br_not_ ?_ | refine br_and ?_ | refine br_and_ ?_ | refine Av.asm_ (by omega) ?_ | refine ⟨_, wrap_i64 (by omega), ?_⟩ | refine ⟨_, wrap_u64 (by omega) (by omega), ?_⟩ | refine ⟨_, wrap_u8 (by omega) (by omega), ?_⟩ | refine ⟨_, wrap_u32 (by omega) (by omega), ?_⟩ | refine ⟨_, wrap_u16 (by omega) (by omega), ?_⟩ | refine ⟨_, rfl, ?_⟩ | exact rfl)
    exact ⟨⟨i + 1, _, by omega, hs, rfl, rfl⟩, hdec _ _ _ _⟩
  · obtain rfl : i = os.length := by omega
    rw [List.take_length] at hD
    subst hD
    exact Av.W
end Go.Proofs.YtbaedepmogkkeaaGreat.Av
namespace Go.Proofs.YtbaedepmogkkeaaGreat.Av
open Go Go.RowKit Tre
set_option linter.unusedVariables false
set_option linter.unusedSimpArgs false
set_option maxRecDepth 100000
set_option maxHeartbeats 1000000

theorem underL_nil (l : List Pr) : underL [] l = l := by
  unfold underL
  rw [List.filter_eq_self]
  intro a _
  rfl
theorem same_ok {a b : Tr} (ha : Tr.Good a) (hb : Tr.Good b) (hn : a.toL.length ≤ 1000000) (hk : ∀ x ∈ a.toL, x.1.length ≤ 1000000000) : SP 56 [trA a, trA b] (B (decide (a.toL = b.toL))) := by
  have h := Tr.same_iff ha hb
  have cq := seq_ok a [] ha.srt (by omega) hk (by simp)
  rw [underL_nil] at cq
  refine same_walk a b a.toL (decide (a.toL = b.toL)) (fun k => Tr.get k b) (fun h1 => ?_) (fun h1 h2 => ⟨fun h3 => ?_, fun x hx h3 => ?_⟩) (len_ok_ a) (len_ok_ b) (bytes_ok a) (bytes_ok b) (fun k => get_ok b k _ rfl) (under_ok a []) cq
  · rw [decide_eq_false_iff_not, h]
    rintro ⟨e1, e2, _⟩
    rcases h1 with h1 | h1
    · exact h1 e1
    · exact h1 e2
  · rw [decide_eq_true_iff, h]; exact ⟨h1, h2, h3⟩
  · rw [decide_eq_false_iff_not, h]
    rintro ⟨_, _, e3⟩
    exact h3 (e3 x hx)
/-- whether a tree has just these pairs -/
theorem like_ok {t : Tr} (l : List Pr) (h : Tr.Good t) (hn : t.toL.length ≤ 1000) (hk : ∀ x ∈ t.toL, x.1.length ≤ 1000000000) (hl : l.length ≤ 1000) (hb : bytesL l ≤ 1000000000000) :
    SP 19 [trA t, .vs l.length (prC l)] (B (decide (t.toL = l))) := by
  have c1 := len_ok_ t
  have c2 := bytes_ok t
  have c3 := pbytes_ok l (by omega) hb _ rfl
  have c4 := told_ok t [] ((l.length : Int) + 1) h.srt (by omega) hk (by simp)
  rw [underL_nil] at c4
  have e1 := Tr.cn_len t
  have e2 := Tr.wt_len t
  rw [e1] at c1
  rw [e2] at c2
  obtain ⟨m, hm⟩ : ∃ m : List Pr, m = t.toL.take ((l.length : Int) + 1).toNat := ⟨_, rfl⟩
  rw [← hm] at c4
  have c5 := psame_ok m l (by rw [hm, List.length_take]; omega) (by omega)
  obtain ⟨n1, hn1⟩ : ∃ n1 : Nat, n1 = t.toL.length := ⟨_, rfl⟩
  obtain ⟨n2, hn2⟩ : ∃ n2 : Nat, n2 = bytesL t.toL := ⟨_, rfl⟩
  obtain ⟨b2, hb2⟩ : ∃ b2 : Nat, b2 = bytesL l := ⟨_, rfl⟩
  rw [← hn1] at c1
  rw [← hn2] at c2
  rw [← hb2] at c3
  have key : decide (t.toL = l) = true ↔ (n1 = l.length ∧ n2 = b2 ∧ decide (m = l) = true) := by
    rw [decide_eq_true_iff, decide_eq_true_iff]
    constructor
    · intro e
      refine ⟨by rw [hn1, e], by rw [hn2, hb2, e], ?_⟩
      rw [hm, e]; exact List.take_of_length_le (by omega)
    · rintro ⟨q1, q2, q3⟩
      rw [← q3, hm]; exact (List.take_of_length_le (by omega)).symm
  obtain ⟨r, hr⟩ : ∃ r, r = decide (t.toL = l) := ⟨_, rfl⟩
  rw [← hr] at key ⊢
  obtain ⟨s, hs⟩ : ∃ s, s = decide (m = l) := ⟨_, rfl⟩
  rw [← hs] at key c5
  clear hr hs hm hn1 hn2 hb2 e1 e2 hk h hb
  by_cases q1 : n1 = l.length
  case neg =>
    obtain rfl : r = false := by cases r; rfl; exact absurd (key.1 rfl).1 q1
    have q1' : ¬ (n1 : Int) = (l.length : Int) := by omega
    clear key
    refine S_ Tryz.func19 (by kernel_rfl) rfl (Nat.le_of_ble_eq_true rfl) ?_
    show avc Tryz.prog SP _ _ _ _ _ _
    dsimp only [avc, startS, Array.toList, Tryz.f19]
    exact Av.W
  by_cases q2 : n2 = b2
  case neg =>
    obtain rfl : r = false := by cases r; rfl; exact absurd (key.1 rfl).2.1 q2
    have q1' : (n1 : Int) = (l.length : Int) := by omega
    have q2' : ¬ (n2 : Int) = (b2 : Int) := by omega
    clear key
    refine S_ Tryz.func19 (by kernel_rfl) rfl (Nat.le_of_ble_eq_true rfl) ?_
    show avc Tryz.prog SP _ _ _ _ _ _
    dsimp only [avc, startS, Array.toList, Tryz.f19]
    exact Av.W
  obtain rfl : r = s := by
    cases s
    · cases r; rfl; exact absurd (key.1 rfl).2.2 (by decide)
    · exact key.2 ⟨q1, q2, rfl⟩
  have q1' : (n1 : Int) = (l.length : Int) := by omega
  have q2' : (n2 : Int) = (b2 : Int) := by omega
  clear key
  refine S_ Tryz.func19 (by kernel_rfl) rfl (Nat.le_of_ble_eq_true rfl) ?_
  show avc Tryz.prog SP _ _ _ _ _ _
  dsimp only [avc, startS, Array.toList, Tryz.f19]
  exact Av.W
end Go.Proofs.YtbaedepmogkkeaaGreat.Av
namespace Go.Proofs.YtbaedepmogkkeaaGreat.Av
open Go Go.RowKit Tre
set_option linter.unusedVariables false
set_option linter.unusedSimpArgs false
set_option maxRecDepth 100000
set_option maxHeartbeats 4000000
abbrev bcell (b : UInt8) : AV := .ex (.int .u8 (b.toNat : Int))
theorem rowB_cells (s : List UInt8) : bytesA (Quill.rowB s) = [bcell (Quill.byteOf 2 s.length 0), bcell (Quill.byteOf 2 s.length 1)] ++ bytesA s := by
  unfold Quill.rowB bytesA
  rw [List.map_append]; rfl
abbrev wrB (n : Nat) : ABlk := ⟨[.sl 1 n, Z 0], none, false, false⟩
abbrev byB (l : List UInt8) : ABlk := ⟨bytesA l, some 5, true, true⟩
theorem wrow_ok (l s : List UInt8) (hs : s.length ≤ 65535) (hl : l.length ≤ 17592186044416) : SM 125 [.ptr 0 0, T s] [wrB l.length, byB l] [.ptr 0 0] (.tup []) [wrB (l ++ Quill.rowB s).length, byB (l ++ Quill.rowB s)] := by
  have hz := bs_size s
  have e0 := Quill.byteOf_toNat 2 s.length 0
  have e1 := Quill.byteOf_toNat 2 s.length 1
  have hb0 : IntKind.u8.wrap (((bs s).size : Int).fdiv (2 ^ (min (8 : Int).toNat IntKind.i64.bits))) = ((Quill.byteOf 2 s.length 0).toNat : Int) := by
    rw [e0, hz]
    show IntKind.u8.wrap ((s.length : Int).fdiv 256) = _
    rw [Int.fdiv_eq_ediv_of_nonneg _ (by omega), wrap_u8 (by omega) (by omega)]
    show _ = ((s.length / 256 % 256 : Nat) : Int)
    omega
  have hb1 : IntKind.u8.wrap ((bs s).size : Int) = ((Quill.byteOf 2 s.length 1).toNat : Int) := by
    rw [e1, hz]
    have : IntKind.u8.wrap (s.length : Int) = (s.length : Int) % 256 := by simp [IntKind.wrap, IntKind.bits, IntKind.signed]
    rw [this]
    show _ = ((s.length / 1 % 256 : Nat) : Int)
    omega
  have ec : bytesA (l ++ Quill.rowB s) = bytesA l ++ [bcell (Quill.byteOf 2 s.length 0), bcell (Quill.byteOf 2 s.length 1)] ++ bytesA (bs s).data.toList := by
    rw [show bytesA (l ++ Quill.rowB s) = bytesA l ++ bytesA (Quill.rowB s) by simp [bytesA], rowB_cells, show (bs s).data.toList = s by simp [bs], List.append_assoc]
  have el : (l ++ Quill.rowB s).length = l.length + 2 + (bs s).size := by rw [List.length_append, Quill.rowB_length, hz]; omega
  rw [show byB (l ++ Quill.rowB s) = ⟨_, some 5, true, true⟩ from congrArg (fun c => (⟨c, some 5, true, true⟩ : ABlk)) ec, el]
  generalize Quill.byteOf 2 s.length 0 = b0 at *
  generalize Quill.byteOf 2 s.length 1 = b1 at *
  have hrm : ∀ k : Nat, k ≤ 70368744177664 → room k (bytesT Tryz.prog 5) := fun k hk => by
    rw [show bytesT Tryz.prog 5 = 1 by kernel_rfl]; unfold room; omega
  have a1 : room (l.length + 2) (bytesT Tryz.prog 5) ∧ (bytesA l).length = l.length * sizeT Tryz.prog 5 ∧ ([bcell b0, bcell b1] : List AV).length = 2 * sizeT Tryz.prog 5 ∧ ∀ v ∈ ([bcell b0, bcell b1] : List AV), one1 v = true :=
    ⟨hrm _ (by omega), by rw [size_u8, bytesA_length]; omega, by rw [size_u8]; rfl, fun v hv => by
      simp only [List.mem_cons, List.not_mem_nil, or_false] at hv
      rcases hv with rfl | rfl <;> rfl⟩
  have a2 : room (l.length + 2 + (bs s).size) (bytesT Tryz.prog 5) ∧ (bytesA l ++ [bcell b0, bcell b1]).length = (l.length + 2) * sizeT Tryz.prog 5 ∧ True :=
    ⟨hrm _ (by omega), by rw [size_u8, List.length_append, bytesA_length]; show _ + 2 = _; omega, trivial⟩
  clear e0 e1 ec el hrm
  refine SM_ Tryz.func125 (by kernel_rfl) rfl (Nat.le_of_ble_eq_true rfl) (Nat.succ_le_succ (Nat.zero_le _)) ?_
  show avc Tryz.prog SP _ _ _ _ _ _
  dsimp only [avc, startS, Array.toList, Tryz.f125]
  exact Av.W
/-- what lies in memory behind some pairs -/
def EInv (N : Nat) (pre : List Pr) (vs : List AV) (bl : List ABlk) : Prop :=
  ∃ (m : Nat) (D : List UInt8), D = Quill.numB 4 N ++ Shf.encR pre ∧ m = D.length ∧ (vs = [.ptr 0 0, .ptr 1 0] ∧ bl = [⟨[.sl 2 m, Z 0], none, false, false⟩, ⟨[.bm 125 0], none, false, false⟩, byB D])
theorem bytesL_le : ∀ {l : List Pr}, (∀ y ∈ l, y.1.length ≤ 65535 ∧ y.2.length ≤ 65535) → bytesL l ≤ 131074 * l.length
  | [], _ => Nat.zero_le _
  | (a, b) :: l, h => by
    have h1 := h (a, b) (by simp)
    have h2 := bytesL_le (l := l) fun y hy => h y (by simp [hy])
    simp only [bytesL, List.length_cons] at *
    omega
theorem enc_walk (t : Tr) (L : List Pr) (hL : L.length ≤ 1000000) (hs : Shf.Short L) (cl : SP 38 [trA t] (Z L.length)) (cu : SP 121 [trA t, T []] (.clo 170 [.vp [ndA t] 0, .vp [T []] 0]))
    (cq : SeqSound Tryz.prog 170 [.vp [ndA t] 0, .vp [T []] 0] encP L) (R : List UInt8) (hR : R = Quill.numB 4 L.length ++ Shf.encR L) : SP 61 [trA t] (.tup [T R, Z 0]) := by
  have cn := numk_nil 4 L.length (by omega) (by omega) (by omega)
  have h4 := Quill.numB_length 4 L.length
  have e0 : EInv L.length [] [.ptr 0 0, .ptr 1 0] [⟨[.sl 2 (Quill.numB 4 L.length).length, Z 0], none, false, false⟩, ⟨[.bm 125 0], none, false, false⟩, byB (Quill.numB 4 L.length)] := ⟨_, _, by simp [Shf.encR], rfl, rfl, rfl⟩
  refine S_ Tryz.func61 (by kernel_rfl) rfl (Nat.le_of_ble_eq_true rfl) ?_
  show avc Tryz.prog SP _ _ _ _ _ _
  dsimp only [avc, startS, Array.toList, Tryz.f61]
  have hW6 : Av.Mk 6 [0,1,3,7,0,31] := ⟨⟩
  refine Av.Wk ?_
  refine ⟨Pr, encP, L, _, _, [4, 5], [], 6, [6, 7], EInv L.length, rfl, cq, fun x => rfl, rfl, rfl, rfl, rfl, rfl, rfl, ?_, ?_, ?_⟩
  · exact e0
  · intro x hx
    have hW7 : Av.Mk 6 [0,1,3,7,0,31] := ⟨⟩
    refine Av.Wk ?_
    rintro pre vs bs hpre hlt ⟨m, D, hD, hm, rfl, rfl⟩
    have hb := bytesL_le (l := pre) fun y hy => hs y (hpre y hy)
    have hDl : D.length = 4 + bytesL pre := by rw [hD, List.length_append, h4, Shf.encR_len]
    have c1 := wrow_ok D x.1 (hs x hx).1 (by omega)
    have c2 := wrow_ok (D ++ Quill.rowB x.1) x.2 (hs x hx).2 (by have := (hs x hx).1; rw [List.length_append, Quill.rowB_length]; omega)
    have fin : EInv L.length (pre ++ [x]) [.ptr 0 0, .ptr 1 0] [⟨[.sl 2 (D ++ Quill.rowB x.1 ++ Quill.rowB x.2).length, Z 0], none, false, false⟩, ⟨[.bm 125 0], none, false, false⟩, byB (D ++ Quill.rowB x.1 ++ Quill.rowB x.2)] :=
      ⟨_, _, by rw [hD, Shf.encR_app]; simp [Shf.encR, Shf.encP], rfl, rfl, rfl⟩
    subst hm
    clear hb hDl hD hlt hpre e0 cl cn cu cq hR
    generalize D ++ Quill.rowB x.1 ++ Quill.rowB x.2 = D2 at *
    generalize D ++ Quill.rowB x.1 = D1 at *
    generalize x.1 = k at *
    generalize x.2 = v at *
    have hW8 : Av.Mk 6 [0,1,3,7,0,31] := ⟨⟩
    exact Av.W
  · rintro vs bs ⟨m, D, hD, hm, rfl, rfl⟩
    obtain rfl : R = D := by rw [hR, hD]
    have hcv : bytesA R = bytesA R ∧ m = R.length := ⟨rfl, hm⟩
    clear hR hD e0 cl cn cu cq
    have hW9 : Av.Mk 6 [0,1,3,7,0,31] := ⟨⟩
    exact Av.W
/-- a map that is not too great -/
structure MapS (t : Tr) : Prop where
  good : Tr.Good t
  len : t.toL.length ≤ 1000000
  key : Shf.Short t.toL
theorem enc_ok {t : Tr} (h : MapS t) : SP 61 [trA t] (.tup [T (Shf.encB t.toL), Z 0]) := by
  have cl := len_ok_ t
  rw [Tr.cn_len] at cl
  have cq := seq_ok t [] h.good.srt (by have := h.len; omega) (fun x hx => by have := (h.key x hx).1; omega) (by decide)
  rw [underL_nil] at cq
  exact enc_walk t t.toL h.len h.key cl (under_ok t []) cq _ rfl
theorem size_ok {t : Tr} (h : t.wt ≤ 1000000000000) : SP 63 [trA t] (Z (4 + t.wt)) := by
  have c := bytes_ok t
  have h0 := Tr.wt_pos t
  refine S_ Tryz.func63 (by kernel_rfl) rfl (Nat.le_of_ble_eq_true rfl) ?_
  show avc Tryz.prog SP _ _ _ _ _ _
  dsimp only [avc, startS, Array.toList, Tryz.f63]
  exact Av.W
theorem sectors_ok (n : Int) (h : n ≤ 9223372036854775807) : SP 64 [Z n] (Z (cntP n)) := by
  have c := count_ok n h
  refine S_ Tryz.func64 (by kernel_rfl) rfl (Nat.le_of_ble_eq_true rfl) ?_
  show avc Tryz.prog SP _ _ _ _ _ _
  dsimp only [avc, startS, Array.toList, Tryz.f64]
  exact Av.W
end Go.Proofs.YtbaedepmogkkeaaGreat.Av
namespace Go.Proofs.YtbaedepmogkkeaaGreat.Av
open Go Go.RowKit Tre
set_option linter.unusedVariables false
set_option linter.unusedSimpArgs false
set_option maxRecDepth 100000
set_option maxHeartbeats 4000000
/-- the map of pairs that are put one behind the other -/
def ofL (l : List Pr) : Tr := l.foldl (fun t p => Tr.put p.1 p.2 t) .nil
theorem ofL_snoc (l : List Pr) (p : Pr) : ofL (l ++ [p]) = Tr.put p.1 p.2 (ofL l) := by unfold ofL; rw [List.foldl_append]; rfl
abbrev zTr : AV := .ex (.agg #[.pointer none])
/-- how a map lies, and as a value: the zero one, or one that was made -/
def cellO : List Pr → AV
  | [] => .ex (.pointer none)
  | a :: l => ndA (ofL (a :: l))
def treeO : List Pr → AV
  | [] => zTr
  | a :: l => trA (ofL (a :: l))
theorem zrepO {w : World} {F : Nat → Nat → Prop} {D : Nat → Prop} {x : Value} (h : Rep w p0 c0 F D zTr x) : Rep w p0 c0 F D (trA .nil) x := by
  rw [h.ex_inv]
  refine .agg _ _ _ rfl fun j hj => ?_
  match j, hj with
  | 0, _ => exact .pt0 _ _
theorem treeO_c {l : List Pr} {f : FuncId} {ys : List AV} {r : AV} (h : SP f (trA (ofL l) :: ys) r) : SP f (treeO l :: ys) r := by
  cases l with
  | cons a l => exact h
  | nil =>
    refine Sound.weak h (by simp) fun w F j h1 h2 x hx => ?_
    cases j with
    | zero => exact zrepO hx
    | succ j => exact hx
/-- what is so of the map so far -/
theorem ofL_good : ∀ (l : List Pr), Tr.Good (ofL l) ∧ (ofL l).cn ≤ l.length ∧ (ofL l).wt ≤ bytesL l := by
  intro l
  have key : ∀ (r : List Pr), Tr.Good (ofL r.reverse) ∧ (ofL r.reverse).cn ≤ r.reverse.length ∧ (ofL r.reverse).wt ≤ bytesL r.reverse := by
    intro r
    induction r with
    | nil => exact ⟨Tr.good_nil, by decide, by decide⟩
    | cons p r ih =>
      obtain ⟨g, c, w⟩ := ih
      rw [List.reverse_cons, ofL_snoc, bytesL_app]
      have h := step_sizes g (1, p.1, p.2)
      have e : (ofL r.reverse).step (1, p.1, p.2) = Tr.put p.1 p.2 (ofL r.reverse) := rfl
      rw [e] at h
      simp only at h
      obtain ⟨a, b⟩ := p
      refine ⟨(g.put a b).1, ?_, ?_⟩
      · rw [List.length_append]; simp only [List.length_cons, List.length_nil] at *; omega
      · simp only [bytesL] at *; omega
  have := key l.reverse
  rwa [List.reverse_reverse] at this
theorem ofL_toL : ∀ {l : List Pr}, Srt l → (ofL l).toL = l := by
  intro l h
  have key : ∀ (r : List Pr), Srt r.reverse → (ofL r.reverse).toL = r.reverse := by
    intro r
    induction r with
    | nil => intro _; rfl
    | cons p r ih =>
      intro h
      rw [List.reverse_cons] at h ⊢
      obtain ⟨a, b⟩ := p
      rw [ofL_snoc, ((ofL_good r.reverse).1.put a b).2, ih h.app_left]
      have := putL_less (k := a) (v := b) (l := r.reverse) [] fun x hx => h.app_lt x hx (a, b) (by simp)
      rw [List.append_nil] at this
      rw [this]; rfl
  have := key l.reverse (by rwa [List.reverse_reverse])
  rwa [List.reverse_reverse] at this
theorem row_le (x : Quill.Sc) : x.row.1.length ≤ x.text.length := by
  unfold Quill.Sc.row
  split
  · exact Nat.zero_le _
  · split
    · exact Nat.zero_le _
    · rw [List.length_take, List.length_drop]; omega
theorem len_bytes : ∀ l : List Pr, 4 * l.length ≤ bytesL l
  | [] => Nat.zero_le _
  | (a, b) :: l => by have := len_bytes l; simp only [List.length_cons, bytesL]; omega
theorem leq_lt (a b : Key) : (Op.bytesLess a b || a == b) = !lt b a := by
  show (lt a b || a == b) = !lt b a
  cases h : lt a b with
  | true => rw [lt_asymm h]; rfl
  | false =>
    cases h2 : lt b a with
    | true =>
      have : a ≠ b := fun e => by subst e; rw [lt_irr] at h2; cases h2
      simpa using this
    | false =>
      have := lt_tri h h2
      simp [this]
/-- between two rounds -/
def DInv (s : List UInt8) (n : Nat) (vs : List AV) (bl : List ABlk) : Prop :=
  ∃ (i : Nat) (p b : Int) (acc : List Pr) (ah : Key), i ≤ n ∧ Shf.decR (n - i) ⟨s, p, b⟩ acc = Shf.dec s ∧ acc.length = i ∧ (acc = [] ∨ ∃ v, acc.getLast? = some (ah, v)) ∧ (b = 0 → ∃ q : Nat, p = q ∧ bytesL acc ≤ q ∧ q ≤ s.length) ∧
    (vs = [U i, U n, .ptr 0 0, .ptr 1 0, T ah, .ptr 2 0] ∧ bl = [⟨[T s, Z p, Z b], none, false, true⟩, ⟨[cellO acc], none, false, true⟩, ⟨[.ex (.pointer none)], none, false, true⟩])
theorem row_step {s : List UInt8} {q : Nat} (hq : q ≤ s.length) (h : (Quill.Sc.row ⟨s, (q : Int), 0⟩).2.bad = 0) : (Quill.Sc.row ⟨s, (q : Int), 0⟩).2.pos = ((q + 2 + (Quill.Sc.row ⟨s, (q : Int), 0⟩).1.length : Nat) : Int) ∧ q + 2 + (Quill.Sc.row ⟨s, (q : Int), 0⟩).1.length ≤ s.length := by
  have hl : (s.take q).length = q := by rw [List.length_take]; omega
  have h' : (Quill.Sc.row ⟨s, ((s.take q).length : Int), 0⟩).2.bad = 0 := by rw [hl]; exact h
  obtain ⟨k, r, e1, e2, e3⟩ := Shf.row_inv (t := s) (a := s.take q) (r := s.drop q) (List.take_append_drop q s).symm h'
  rw [hl] at e3
  have e4 := congrArg List.length e1
  rw [List.length_drop, List.length_append, Quill.rowB_length] at e4
  rw [e3]
  simp only
  rw [List.length_append, hl, Quill.rowB_length]
  exact ⟨by omega, by omega⟩
theorem sdec_ok (s : List UInt8) (hl : s.length ≤ 100000000) : SP 62 [T s] (.tup [treeO (Shf.dec s).1, Z (Shf.dec s).2]) := by
  have cn := scannum_snd s 0 0 4 (by omega)
  obtain ⟨n, x0, hn⟩ : ∃ n x0, Quill.Sc.num ⟨s, 0, 0⟩ 4 = (n, x0) := ⟨_, _, rfl⟩
  have hx0 : x0.text = s := by have := Quill.Sc.num_text ⟨s, 0, 0⟩ 4; rw [hn] at this; exact this
  have hdec : Shf.decR n x0 [] = Shf.dec s := by unfold Shf.dec; rw [hn]
  have hn32 : n < 4294967296 ∧ (x0.bad = 0 → ∃ q : Nat, x0.pos = q ∧ bytesL [] ≤ q ∧ q ≤ s.length) := by
    by_cases hb : x0.bad = 0
    · obtain ⟨h4, e⟩ := Shf.num_inv (t := s) (a := []) (r := s) (z := 4) rfl (by omega) (by omega) (by show (Quill.Sc.num ⟨s, 0, 0⟩ 4).2.bad = 0; rw [hn]; exact hb)
      have e : Quill.Sc.num ⟨s, 0, 0⟩ 4 = (Quill.tell (s.take 4), ⟨s, (((s.take 4).length : Nat) : Int), 0⟩) := e
      rw [hn] at e
      injection e with e1 e2
      have := Quill.tell_lt (s.take 4)
      have hl4 : (s.take 4).length = 4 := by rw [List.length_take]; omega
      rw [hl4] at this e2
      refine ⟨by rw [e1]; omega, fun _ => ⟨4, by rw [e2], Nat.zero_le _, h4⟩⟩
    · refine ⟨?_, fun h => absurd h hb⟩
      have : n = 0 := by
        have h2 : (Quill.Sc.num ⟨s, 0, 0⟩ 4).2.bad ≠ 0 := by rw [hn]; exact hb
        have h1 : (Quill.Sc.num ⟨s, 0, 0⟩ 4).1 = 0 := by
          unfold Quill.Sc.num at h2 ⊢
          split
          · rfl
          · split
            · rfl
            · split
              · rfl
              · rename_i a1 a2 a3; exact absurd (by rw [if_neg a1, if_neg a2, if_neg a3]) h2
        rw [hn] at h1; exact h1
      omega
  rw [hn] at cn
  obtain ⟨t0, p0', b0⟩ := x0
  have hx0 : t0 = s := hx0
  subst hx0
  simp only at cn hn32
  have e0 : DInv t0 n [U 0, U n, .ptr 0 0, .ptr 1 0, T [], .ptr 2 0] [⟨[T t0, Z p0', Z b0], none, false, true⟩, ⟨[.ex (.pointer none)], none, false, true⟩, ⟨[.ex (.pointer none)], none, false, true⟩] := ⟨0, p0', b0, [], [], Nat.zero_le _, hdec, rfl, .inl rfl, hn32.2, rfl, rfl⟩
  have hn32 := hn32.1
  clear hn hdec
  refine S_ Tryz.func62 (by kernel_rfl) rfl (Nat.le_of_ble_eq_true rfl) ?_
  show avc Tryz.prog SP _ _ _ _ _ _
  dsimp only [avc, startS, Array.toList, Tryz.f62]
  refine Av.Wk ?_
  refine ⟨[8, 5, 6, 4, 7, 2], [], DInv t0 n, muI n, e0, ?_⟩
  clear e0 cn
  rintro vs bl ⟨i, p, b, acc, ah, hi, hd, hai, hah, hq, rfl, rfl⟩
  by_cases hgo : i < n ∧ b = 0
  · obtain ⟨hlt, hb⟩ := hgo
    subst hb
    obtain ⟨q, hq1, hq2, hq3⟩ := hq rfl
    subst hq1
    have hdec : muI n [U ((i : Int) + 1)] [] < muI n [U i] [] := by show n - ((i : Int) + 1).toNat < n - (i : Int).toNat; omega
    rw [show n - i = (n - (i + 1)) + 1 by omega, Shf.decR_succ, if_neg (by simp)] at hd
    have c1 := row_snd ⟨t0, q, 0⟩ (by show t0.length ≤ _; omega)
    have hk := row_le ⟨t0, q, 0⟩
    have ht1 := Quill.Sc.row_text ⟨t0, q, 0⟩
    have hst := row_step (s := t0) hq3
    obtain ⟨k, x1, hr1⟩ : ∃ k x1, Quill.Sc.row ⟨t0, q, 0⟩ = (k, x1) := ⟨_, _, rfl⟩
    rw [hr1] at hd c1 hk ht1 hst
    obtain ⟨s1, p1, b1⟩ := x1
    have ht1 : s1 = t0 := ht1
    subst ht1
    simp only at hd c1 hk hst
    have c2 := row_snd ⟨s1, p1, b1⟩ (by show s1.length ≤ _; omega)
    have hv := row_le ⟨s1, p1, b1⟩
    have ht2 := Quill.Sc.row_text ⟨s1, p1, b1⟩
    have hst2 : b1 = 0 → (Quill.Sc.row ⟨s1, p1, b1⟩).2.bad = 0 → ∃ q' : Nat, (Quill.Sc.row ⟨s1, p1, b1⟩).2.pos = q' ∧ q + 4 + k.length + (Quill.Sc.row ⟨s1, p1, b1⟩).1.length ≤ q' ∧ q' ≤ s1.length := fun h1 h2 => by
      obtain ⟨f1, f2⟩ := hst h1
      rw [f1, h1] at h2 ⊢
      obtain ⟨f3, f4⟩ := row_step f2 h2
      exact ⟨_, f3, by omega, f4⟩
    have hbb : b1 ≠ 0 → (Quill.Sc.row ⟨s1, p1, b1⟩).2.bad = b1 := fun h => by rw [Shf.row_bad s1 p1 b1 h]
    obtain ⟨v, x2, hr2⟩ : ∃ v x2, Quill.Sc.row ⟨s1, p1, b1⟩ = (v, x2) := ⟨_, _, rfl⟩
    rw [hr2] at hd c2 hv ht2 hst2 hbb
    obtain ⟨s2, p2, b2⟩ := x2
    have ht2 : s2 = s1 := ht2
    subst ht2
    simp only at hd c2 hv hst2 hbb
    obtain ⟨_, gc, gw⟩ := ofL_good acc
    have hlb := len_bytes acc
    have cp := treeO_c (l := acc) (tput_ok (t := ofL acc) (k := k) (v := v) ⟨by omega, by omega⟩)
    rw [← ofL_snoc acc (k, v)] at cp
    have hcell : ∀ l : List Pr, l ≠ [] → cellO l = ndA (ofL l) ∧ treeO l = trA (ofL l) := fun l h => by
      cases l with
      | nil => exact absurd rfl h
      | cons a l => exact ⟨rfl, rfl⟩
    have hne : acc ++ [(k, v)] ≠ [] := by simp
    have fin : Shf.decR (n - (i + 1)) ⟨s2, p2, b2⟩ (acc ++ [(k, v)]) = Shf.dec s2 → DInv s2 n [U ((i : Int) + 1), U n, .ptr 0 0, .ptr 1 0, T k, .ptr 2 0] [⟨[T s2, Z p2, Z b2], none, false, true⟩, ⟨[ndA (ofL (acc ++ [(k, v)]))], none, false, true⟩, ⟨[.ex (.pointer none)], none, false, true⟩] := fun h =>
      ⟨i + 1, p2, b2, acc ++ [(k, v)], k, by omega, h, by simp [hai], .inr ⟨v, by simp⟩, fun hb2 => by
        by_cases h1 : b1 = 0
        · obtain ⟨q', f1, f2, f3⟩ := hst2 h1 hb2
          refine ⟨q', f1, ?_, f3⟩
          rw [bytesL_app]
          simp only [bytesL]
          omega
        · exact absurd (hb2.symm.trans (hbb h1)) (Ne.symm h1), rfl, by rw [(hcell _ hne).1]⟩
    by_cases hstop : b1 = 0 ∧ Shf.late acc k = true
    · obtain ⟨h1, h2⟩ := hstop
      rw [if_pos ⟨h1, h2⟩] at hd
      rw [← hd]
      have hcons : 0 < i := by
        rcases hah with rfl | ⟨w, hw⟩
        · exact absurd h2 (by simp [Shf.late])
        · cases acc with
          | nil => simp at hw
          | cons a l => rw [← hai]; simp
      have hX : (Op.bytesLess (bs k).toList (bs ah).toList || (bs k).toList == (bs ah).toList) = true := by
        rw [bsl_, bsl_, leq_lt]
        rcases hah with rfl | ⟨w, hw⟩
        · simp at hai; omega
        · unfold Shf.late at h2; rw [hw] at h2; exact h2
      clear fin cp hne hcell hlb gc gw hbb hst2 hv hst hk c2
      generalize cellO acc = N at *
      exact Av.W
    · rw [if_neg hstop] at hd
      have fin := fin hd
      have hX : b1 = 0 → 0 < i → (Op.bytesLess (bs k).toList (bs ah).toList || (bs k).toList == (bs ah).toList) = false := fun h1 h0 => by
        rw [bsl_, bsl_, leq_lt]
        rcases hah with rfl | ⟨w, hw⟩
        · simp at hai; omega
        · have : Shf.late acc k ≠ true := fun e => hstop ⟨h1, e⟩
          unfold Shf.late at this; rw [hw] at this; simpa using this
      clear hlb gc gw hbb hst2 hv hst hk hstop hd hcell
      generalize ofL (acc ++ [(k, v)]) = t' at *
      by_cases hb1 : b1 = 0
      · by_cases hi0 : 0 < i
        · have hX := hX hb1 hi0
          cases acc with
          | nil => simp at hai; omega
          | cons a l =>
            exact Av.W
        · clear hX
          cases acc with
          | nil =>
            exact Av.W
          | cons a l => simp at hai; omega
      · clear hX
        cases acc
        all_goals
          exact Av.W
  · have hfin : Shf.fin ⟨t0, p, b⟩ acc = Shf.dec t0 := by
      rw [← hd]
      by_cases hb : b = 0
      · rw [show n - i = 0 by omega]; rfl
      · rw [Shf.decR_bad (n - i) t0 acc p b hb, Shf.fin_bad t0 acc p b hb]
    have ce := end_snd ⟨t0, p, b⟩ (by show t0.length ≤ _; omega)
    unfold Shf.fin at hfin
    have hex : ¬ (i < n) ∨ b ≠ 0 := by omega
    obtain ⟨e, he⟩ : ∃ e, Quill.Sc.fin ⟨t0, p, b⟩ = e := ⟨_, rfl⟩
    rw [he] at ce hfin
    simp only at ce
    by_cases h0 : e = 0
    · rw [if_pos h0] at hfin
      rw [← hfin]
      clear hfin hd hah hq
      cases acc
      all_goals
        exact Av.W
    · rw [if_neg h0] at hfin
      rw [← hfin]
      clear hfin hd hah hq
      generalize cellO acc = N at *
      exact Av.W
end Go.Proofs.YtbaedepmogkkeaaGreat.Av
namespace Go.Proofs.YtbaedepmogkkeaaGreat.Av
open Go Go.RowKit Tre
set_option linter.unusedVariables false
set_option linter.unusedSimpArgs false
set_option maxRecDepth 100000
set_option maxHeartbeats 4000000
theorem rsize_ok (l : List Pr) (hl : l.length ≤ 1000000) (hb : bytesL l ≤ 1000000000000) : SP 160 [.vs l.length (prC l)] (Z (4 + (bytesL l : Int))) := by
  have c := pbytes_ok l hl hb _ rfl
  refine S_ Tryz.func160 (by kernel_rfl) rfl (Nat.le_of_ble_eq_true rfl) ?_
  show avc Tryz.prog SP _ _ _ _ _ _
  dsimp only [avc, startS, Array.toList, Tryz.f160]
  exact Av.W
theorem rrowk_snd (l s : List UInt8) (hl : l.length ≤ 17592186044416) (hs : s.length ≤ 65535) : SP 132 [.vs l.length (bytesA l), T s] (.tup [.own 5 (l ++ Quill.rowB s).length (bytesA (l ++ Quill.rowB s)), Z 0]) :=
  sound_bytesE (vs := [.string (bs s)]) Tryz.func132 (by kernel_rfl) rfl (fun w A n c hr => refrow_any A n c l s w w.heap.size hr (by have := hr.1; omega) hs (Nat.le_refl _)) _ (.inl rfl)
def RInv (l : List Pr) (vs : List AV) (bl : List ABlk) : Prop :=
  ∃ (i m : Nat) (D : List UInt8), i ≤ l.length ∧ D = Quill.numB 4 l.length ++ Shf.encR (l.take i) ∧ m = D.length ∧ (vs = [Z i, .sl 0 m, .vs l.length (prC l)] ∧ bl = [byB D])
theorem renc_ok (l : List Pr) (hl : l.length ≤ 1000000) (hs : Shf.Short l) : SP 68 [.vs l.length (prC l)] (.tup [T (Shf.encB l), Z 0]) := by
  have cn := rnumk_nil 4 l.length (by omega) (by omega) (by omega)
  have h4 := Quill.numB_length 4 l.length
  have e0 : RInv l [Z 0, .sl 0 (Quill.numB 4 l.length).length, .vs l.length (prC l)] [byB (Quill.numB 4 l.length)] := ⟨0, _, _, Nat.zero_le _, by simp [Shf.encR], rfl, rfl, rfl⟩
  obtain ⟨R, hR⟩ : ∃ R, R = Shf.encB l := ⟨_, rfl⟩
  rw [← hR]
  refine S_ Tryz.func68 (by kernel_rfl) rfl (Nat.le_of_ble_eq_true rfl) ?_
  show avc Tryz.prog SP _ _ _ _ _ _
  dsimp only [avc, startS, Array.toList, Tryz.f68]
  refine Av.Wk ?_
  refine ⟨[5, 4, 0], [], RInv l, muI l.length, e0, ?_⟩
  clear e0 cn
  rintro vs bl ⟨i, m, D, hi, hD, hm, rfl, rfl⟩
  subst hm
  have hb := bytesL_le (l := l.take i) fun y hy => hs y (List.mem_of_mem_take hy)
  have hDl : D.length = 4 + bytesL (l.take i) := by rw [hD, List.length_append, h4, Shf.encR_len]
  have hti : (l.take i).length ≤ 1000000 := by rw [List.length_take]; omega
  by_cases hlt : i < l.length
  · have h1 := prK hlt
    have h2 := prV hlt
    have hx := hs _ (List.getElem_mem hlt)
    have hdec : muI l.length [Z ((i : Int) + 1)] [] < muI l.length [Z i] [] := by show l.length - ((i : Int) + 1).toNat < l.length - (i : Int).toNat; omega
    have c1 := rrowk_snd D l[i].1 (by omega) hx.1
    have c2 := rrowk_snd (D ++ Quill.rowB l[i].1) l[i].2 (by rw [List.length_append, Quill.rowB_length]; omega) hx.2
    have fin : RInv l [Z ((i : Int) + 1), .sl 0 (D ++ Quill.rowB l[i].1 ++ Quill.rowB l[i].2).length, .vs l.length (prC l)] [byB (D ++ Quill.rowB l[i].1 ++ Quill.rowB l[i].2)] :=
      ⟨i + 1, _, _, by omega, by rw [hD, List.take_add_one, List.getElem?_eq_getElem hlt, Shf.encR_app]; simp [Shf.encR, Shf.encP], rfl, rfl, rfl⟩
    have z1 := bs_size l[i].1
    have z2 := bs_size l[i].2
    clear hb hDl hD hR hti h4
    generalize D ++ Quill.rowB l[i].1 ++ Quill.rowB l[i].2 = D2 at *
    generalize D ++ Quill.rowB l[i].1 = D1 at *
    generalize l[i].1 = k at *
    generalize l[i].2 = v at *
    exact Av.W
  · obtain rfl : i = l.length := by omega
    rw [List.take_length] at hD
    obtain rfl : R = D := by rw [hR, hD]; rfl
    have hcv : bytesA R = bytesA R ∧ R.length = R.length := ⟨rfl, rfl⟩
    clear hb hDl hD hR hti h4
    exact Av.W
/-- between two rounds of the document's -/
def RDInv (s : List UInt8) (n : Nat) (vs : List AV) (bl : List ABlk) : Prop :=
  ∃ (i m : Nat) (p b : Int) (acc : List Pr) (D : List AV), i ≤ n ∧ Shf.decR (n - i) ⟨s, p, b⟩ acc = Shf.dec s ∧ m = acc.length ∧ D = prC acc ∧ (b = 0 → ∃ q : Nat, p = q ∧ bytesL acc ≤ q ∧ q ≤ s.length) ∧
    (vs = [U i, U n, .ptr 0 0, .sl 1 m] ∧ bl = [⟨[T s, Z p, Z b], none, false, true⟩, rowP D])
theorem num_first (s : List UInt8) {n : Nat} {x0 : Quill.Sc} (hn : Quill.Sc.num ⟨s, 0, 0⟩ 4 = (n, x0)) : x0.text = s ∧ n < 4294967296 ∧ (x0.bad = 0 → ∃ q : Nat, x0.pos = q ∧ bytesL [] ≤ q ∧ q ≤ s.length) := by
  refine ⟨by have := Quill.Sc.num_text ⟨s, 0, 0⟩ 4; rw [hn] at this; exact this, ?_⟩
  by_cases hb : x0.bad = 0
  · obtain ⟨h4, e⟩ := Shf.num_inv (t := s) (a := []) (r := s) (z := 4) rfl (by omega) (by omega) (by show (Quill.Sc.num ⟨s, 0, 0⟩ 4).2.bad = 0; rw [hn]; exact hb)
    have e : Quill.Sc.num ⟨s, 0, 0⟩ 4 = (Quill.tell (s.take 4), ⟨s, (((s.take 4).length : Nat) : Int), 0⟩) := e
    rw [hn] at e
    injection e with e1 e2
    have := Quill.tell_lt (s.take 4)
    have hl4 : (s.take 4).length = 4 := by rw [List.length_take]; omega
    rw [hl4] at this e2
    refine ⟨by rw [e1]; omega, fun _ => ⟨4, by rw [e2], Nat.zero_le _, h4⟩⟩
  · refine ⟨?_, fun h => absurd h hb⟩
    have : n = 0 := by
      have h2 : (Quill.Sc.num ⟨s, 0, 0⟩ 4).2.bad ≠ 0 := by rw [hn]; exact hb
      have h1 : (Quill.Sc.num ⟨s, 0, 0⟩ 4).1 = 0 := by
        unfold Quill.Sc.num at h2 ⊢
        split
        · rfl
        · split
          · rfl
          · split
            · rfl
            · rename_i a1 a2 a3; exact absurd (by rw [if_neg a1, if_neg a2, if_neg a3]) h2
      rw [hn] at h1; exact h1
    omega
theorem rdec_ok (s : List UInt8) (hl : s.length ≤ 100000000) : SP 77 [T s] (.tup [.vs (Shf.dec s).1.length (prC (Shf.dec s).1), Z (Shf.dec s).2]) := by
  have cn := takenum_snd s 0 0 4 (by omega)
  obtain ⟨n, x0, hn⟩ : ∃ n x0, Quill.Sc.num ⟨s, 0, 0⟩ 4 = (n, x0) := ⟨_, _, rfl⟩
  obtain ⟨hx0, hn32, hq0⟩ := num_first s hn
  have hdec : Shf.decR n x0 [] = Shf.dec s := by unfold Shf.dec; rw [hn]
  rw [hn] at cn
  obtain ⟨t0, p0', b0⟩ := x0
  have hx0 : t0 = s := hx0
  subst hx0
  simp only at cn hq0
  have e0 : RDInv t0 n [U 0, U n, .ptr 0 0, .sl 1 0] [⟨[T t0, Z p0', Z b0], none, false, true⟩, rowP []] := ⟨0, 0, p0', b0, [], [], Nat.zero_le _, hdec, rfl, rfl, hq0, rfl, rfl⟩
  clear hn hdec hq0
  refine S_ Tryz.func77 (by kernel_rfl) rfl (Nat.le_of_ble_eq_true rfl) ?_
  show avc Tryz.prog SP _ _ _ _ _ _
  dsimp only [avc, startS, Array.toList, Tryz.f77]
  refine Av.Wk ?_
  refine ⟨[7, 4, 5, 6], [(6, some 212)], RDInv t0 n, muI n, e0, ?_⟩
  clear e0 cn
  rintro vs bl ⟨i, m, p, b, acc, D, hi, hd, hm, hD, hq, rfl, rfl⟩
  have hDl : D.length = m * sizeT Tryz.prog 212 := by rw [hD, prC_len, hm, hsP]
  by_cases hgo : i < n ∧ b = 0
  · obtain ⟨hlt, hb⟩ := hgo
    subst hb
    obtain ⟨q, hq1, hq2, hq3⟩ := hq rfl
    subst hq1
    have hdec : muI n [U ((i : Int) + 1)] [] < muI n [U i] [] := by show n - ((i : Int) + 1).toNat < n - (i : Int).toNat; omega
    rw [show n - i = (n - (i + 1)) + 1 by omega, Shf.decR_succ, if_neg (by simp)] at hd
    have c1 := rrow_snd ⟨t0, q, 0⟩ (by show t0.length ≤ _; omega)
    have hk := row_le ⟨t0, q, 0⟩
    have ht1 := Quill.Sc.row_text ⟨t0, q, 0⟩
    have hst := row_step (s := t0) hq3
    obtain ⟨k, x1, hr1⟩ : ∃ k x1, Quill.Sc.row ⟨t0, q, 0⟩ = (k, x1) := ⟨_, _, rfl⟩
    rw [hr1] at hd c1 hk ht1 hst
    obtain ⟨s1, p1, b1⟩ := x1
    have ht1 : s1 = t0 := ht1
    subst ht1
    simp only at hd c1 hk hst
    have c2 := rrow_snd ⟨s1, p1, b1⟩ (by show s1.length ≤ _; omega)
    have ht2 := Quill.Sc.row_text ⟨s1, p1, b1⟩
    have hst2 : b1 = 0 → (Quill.Sc.row ⟨s1, p1, b1⟩).2.bad = 0 → ∃ q' : Nat, (Quill.Sc.row ⟨s1, p1, b1⟩).2.pos = q' ∧ q + 4 + k.length + (Quill.Sc.row ⟨s1, p1, b1⟩).1.length ≤ q' ∧ q' ≤ s1.length := fun h1 h2 => by
      obtain ⟨f1, f2⟩ := hst h1
      rw [f1, h1] at h2 ⊢
      obtain ⟨f3, f4⟩ := row_step f2 h2
      exact ⟨_, f3, by omega, f4⟩
    have hbb : b1 ≠ 0 → (Quill.Sc.row ⟨s1, p1, b1⟩).2.bad = b1 := fun h => by rw [Shf.row_bad s1 p1 b1 h]
    obtain ⟨v, x2, hr2⟩ : ∃ v x2, Quill.Sc.row ⟨s1, p1, b1⟩ = (v, x2) := ⟨_, _, rfl⟩
    rw [hr2] at hd c2 ht2 hst2 hbb
    obtain ⟨s2, p2, b2⟩ := x2
    have ht2 : s2 = s1 := ht2
    subst ht2
    simp only at hd c2 hst2 hbb
    have hlb := len_bytes acc
    have hmb : m ≤ 100000000 := by omega
    have ap : room (m + 1) (bytesT Tryz.prog 212) ∧ D.length = m * sizeT Tryz.prog 212 ∧ ([T k, T v] : List AV).length = 1 * sizeT Tryz.prog 212 ∧ ∀ u ∈ ([T k, T v] : List AV), one1 u = true := ⟨room_p (by omega), hDl, pre2 k v⟩
    have fin : Shf.decR (n - (i + 1)) ⟨s2, p2, b2⟩ (acc ++ [(k, v)]) = Shf.dec s2 → RDInv s2 n [U ((i : Int) + 1), U n, .ptr 0 0, .sl 1 (m + 1)] [⟨[T s2, Z p2, Z b2], none, false, true⟩, rowP (D ++ [T k, T v])] := fun h =>
      ⟨i + 1, m + 1, p2, b2, acc ++ [(k, v)], _, by omega, h, by simp [hm], by rw [hD, prC_app]; rfl, fun hb2 => by
        by_cases h1 : b1 = 0
        · obtain ⟨q', f1, f2, f3⟩ := hst2 h1 hb2
          refine ⟨q', f1, ?_, f3⟩
          rw [bytesL_app]
          simp only [bytesL]
          omega
        · exact absurd (hb2.symm.trans (hbb h1)) (Ne.symm h1), rfl, rfl⟩
    have hlast : 0 < m → ∃ a : Pr, acc.getLast? = some a ∧ D[mulS ((m : Int) - 1).toNat (sizeT Tryz.prog 212) + 0]? = some (T a.1) := fun h0 => by
      have hlt' : m - 1 < acc.length := by omega
      refine ⟨acc[m - 1], ?_, ?_⟩
      · rw [List.getLast?_eq_getElem?, ← hm, List.getElem?_eq_getElem hlt']
      · rw [hD, show (m : Int) - 1 = ((m - 1 : Nat) : Int) by omega]
        exact prK hlt'
    have hnil : ¬ 0 < m → Shf.late acc k = false := fun h0 => by
      have : acc = [] := List.length_eq_zero_iff.1 (by omega)
      subst this; rfl
    by_cases hm0 : 0 < m
    · obtain ⟨a, ha1, ha2⟩ := hlast hm0
      have hX : (!(Op.bytesLess (bs a.1).toList (bs k).toList)) = Shf.late acc k := by
        rw [bsl_, bsl_]
        unfold Shf.late
        rw [ha1]; rfl
      clear hlast hnil ha1 hlb hDl hst hst2 hbb hk
      generalize a.1 = ak at *
      cases hlt2 : Shf.late acc k with
      | true =>
        rw [hlt2] at hX
        by_cases hb1 : b1 = 0
        · rw [if_pos ⟨hb1, hlt2⟩] at hd
          rw [← hd]
          clear fin ap c2
          exact Av.W
        · rw [if_neg (fun h => hb1 h.1)] at hd
          have fin := fin hd
          clear hX
          exact Av.W
      | false =>
        rw [hlt2] at hX
        rw [if_neg (fun h => by rw [hlt2] at h; cases h.2)] at hd
        have fin := fin hd
        exact Av.W
    · have h1 := hnil hm0
      rw [if_neg (fun h => by rw [h1] at h; cases h.2)] at hd
      have fin := fin hd
      clear hlast hnil hlb hDl hst hst2 hbb hk
      exact Av.W
  · have hfin : Shf.fin ⟨t0, p, b⟩ acc = Shf.dec t0 := by
      rw [← hd]
      by_cases hb : b = 0
      · rw [show n - i = 0 by omega]; rfl
      · rw [Shf.decR_bad (n - i) t0 acc p b hb, Shf.fin_bad t0 acc p b hb]
    have ce := rend_snd ⟨t0, p, b⟩ (by show t0.length ≤ _; omega)
    unfold Shf.fin at hfin
    have hex : ¬ (i < n) ∨ b ≠ 0 := by omega
    obtain ⟨e, he⟩ : ∃ e, Quill.Sc.fin ⟨t0, p, b⟩ = e := ⟨_, rfl⟩
    rw [he] at ce hfin
    simp only at ce
    by_cases h0 : e = 0
    · rw [if_pos h0] at hfin
      rw [← hfin]
      have e2 : AV.vs acc.length (prC acc) = .vs m D := by rw [hm, hD]
      rw [e2]
      clear hfin hd hq hDl hD e2
      exact Av.W
    · rw [if_neg h0] at hfin
      rw [← hfin]
      clear hfin hd hq hDl hD
      exact Av.W
end Go.Proofs.YtbaedepmogkkeaaGreat.Av
namespace Go.Proofs.YtbaedepmogkkeaaGreat.Av
open Go Go.RowKit
set_option linter.unusedVariables false
set_option linter.unusedSimpArgs false
set_option maxRecDepth 100000

/-- a sector: the mark, what is held and bytes of 0 behind it, the mark -/
def sec (m : Nat) (q : List UInt8) : List UInt8 := Quill.numB 8 m ++ q ++ List.replicate (48 - q.length) 0 ++ Quill.numB 8 m
theorem rep0 (c : Nat) : Lib.repeatL [0] c = List.replicate c 0 := by
  have := Lib.repeatL_replicate 0 1 c
  simpa using this
theorem seal_arg (q : List UInt8) : SP 67 [U 0, T q] (.tup [T [], Z 2]) := by
  refine S_ Tryz.func67 (by kernel_rfl) rfl (Nat.le_of_ble_eq_true rfl) ?_
  show avc Tryz.prog SP _ _ _ _ _ _
  dsimp only [avc, startS, Array.toList, Tryz.f67]
  exact Av.W
theorem seal_long (m : Nat) (q : List UInt8) (hm : m ≠ 0) (hq : 48 < (bs q).size) : SP 67 [U m, T q] (.tup [T [], Z 5]) := by
  refine S_ Tryz.func67 (by kernel_rfl) rfl (Nat.le_of_ble_eq_true rfl) ?_
  show avc Tryz.prog SP _ _ _ _ _ _
  dsimp only [avc, startS, Array.toList, Tryz.f67]
  exact Av.W
theorem seal_yes (m : Nat) (q : List UInt8) (hm : m ≠ 0) (hm2 : m < 18446744073709551616) (hq : q.length ≤ 48) : SP 67 [U m, T q] (.tup [T (sec m q), Z 0]) := by
  have hsz := bs_size q
  have hN := Quill.numB_length 8 m
  have hc : SP 130 [.ex (.string (ByteArray.mk #[0])), Z (48 - ((bs q).size : Int))] (T (List.replicate (48 - q.length) 0)) := by
    have := repeat_snd [0] (48 - q.length) (by omega) (by simp; omega)
    rw [rep0] at this
    have e : ((48 - q.length : Nat) : Int) = 48 - ((bs q).size : Int) := by omega
    rw [e] at this
    exact this
  have a1 : (bs (Quill.numB 8 m)).size + (bs q).size ≤ 9223372036854775807 := by rw [bs_size, bs_size]; omega
  have a2 : (bs (Quill.numB 8 m) ++ bs q).size + (bs (List.replicate (48 - q.length) (0 : UInt8))).size ≤ 9223372036854775807 := by rw [bs_add, bs_size, bs_size]; simp; omega
  have a3 : (bs (Quill.numB 8 m) ++ bs q ++ bs (List.replicate (48 - q.length) (0 : UInt8))).size + (bs (Quill.numB 8 m)).size ≤ 9223372036854775807 := by rw [bs_add, bs_add, bs_size, bs_size]; simp; omega
  have hres : bs (Quill.numB 8 m) ++ bs q ++ bs (List.replicate (48 - q.length) (0 : UInt8)) ++ bs (Quill.numB 8 m) = bs (sec m q) := by rw [bs_add, bs_add, bs_add]; rfl
  refine S_ Tryz.func67 (by kernel_rfl) rfl (Nat.le_of_ble_eq_true rfl) ?_
  show avc Tryz.prog SP _ _ _ _ _ _
  dsimp only [avc, startS, Array.toList, Tryz.f67]
  repeat' ((try conv => whnf) <;> first | refine Av.hm_ ?_ | refine Av.w1 ?_ | refine Av.w2 ?_ | refine Av.w3 ?_ | refine Av.w4 ?_ | refine Av.nle rfl ?_ | refine Av.q1 ?_ | refine Av.q2 ?_ | refine Av.q3 ?_ | refine Av.q4 ?_ | refine Av.inr_ (by omega) (by omega) ?_ | refine ⟨_, numk_nil 8 m (by omega) (by omega) hm2, ?_⟩ | (refine ⟨Quill.numB 8 m, ⟨rfl, rfl⟩, ?_⟩) | refine ⟨_, hc, ?_⟩ | (refine And.intro a1 ?_) | (refine And.intro a2 ?_) | (refine And.intro a3 ?_) | exact True.intro | refine Av.eqt_ (by kernel_rfl) ?_ | refine ⟨rfl, ?_⟩ | refine ⟨⟨Nat.le_of_ble_eq_true rfl, rfl⟩, ?_⟩ | refine ⟨⟨rfl, rfl⟩, ?_⟩ | refine ⟨⟨rfl, rfl, rfl⟩, ?_⟩ | exact ⟨rfl, rfl, rfl⟩ | exact ⟨rfl, rfl⟩ | ((first | refine br_lt ?_ ?_ | refine br_lt_ ?_ ?_ | refine br_le ?_ ?_ | refine br_le_ ?_ ?_ | refine br_eq ?_ ?_ | refine br_eq_ ?_ ?_ | refine br_seq ?_ ?_ | refine br_seq_ ?_ ?_) <;> intro hBr <;> first | (exfalso; omega) | (exfalso; contradiction) | (exfalso; exact hBr rfl) | skip) | refine br_not ?_ | refine br_not_ ?_ | refine br_and ?_ | refine br_and_ ?_ | refine Av.asm_ (by omega) ?_ | refine ⟨_, wrap_i64 (by omega), ?_⟩ | refine ⟨_, wrap_u64 (by omega) (by omega), ?_⟩ | refine ⟨_, wrap_u8 (by omega) (by omega), ?_⟩ | refine ⟨_, wrap_u32 (by omega) (by omega), ?_⟩ | refine ⟨_, wrap_u16 (by omega) (by omega), ?_⟩ | refine ⟨_, rfl, ?_⟩ | exact rfl)
/-! ### by the reference -/
theorem rseal_arg (q : List UInt8) : SP 72 [U 0, T q] (.tup [T [], Z 2]) := by
  refine S_ Tryz.func72 (by kernel_rfl) rfl (Nat.le_of_ble_eq_true rfl) ?_
  show avc Tryz.prog SP _ _ _ _ _ _
  dsimp only [avc, startS, Array.toList, Tryz.f72]
  exact Av.W
theorem rseal_long (m : Nat) (q : List UInt8) (hm : m ≠ 0) (hq : 48 < (bs q).size) : SP 72 [U m, T q] (.tup [T [], Z 5]) := by
  refine S_ Tryz.func72 (by kernel_rfl) rfl (Nat.le_of_ble_eq_true rfl) ?_
  show avc Tryz.prog SP _ _ _ _ _ _
  dsimp only [avc, startS, Array.toList, Tryz.f72]
  exact Av.W
theorem room_b {k : Nat} (hk : k ≤ 1000000000000) : room k (bytesT Tryz.prog 5) := by
  rw [show bytesT Tryz.prog 5 = 1 by kernel_rfl]; unfold room; omega
theorem one_b (l : List UInt8) : ∀ v ∈ bytesA l, one1 v = true := by
  intro v hv
  obtain ⟨b, _, rfl⟩ := List.mem_map.1 hv
  rfl
theorem bytesA_add (a b : List UInt8) : bytesA a ++ bytesA b = bytesA (a ++ b) := by simp [bytesA]
theorem bytesA_snoc0 (a : List UInt8) : bytesA a ++ [AV.ex (.int .u8 0)] = bytesA (a ++ [0]) := by simp [bytesA, byteA]
theorem rseal_yes (m : Nat) (q : List UInt8) (hm : m ≠ 0) (hm2 : m < 18446744073709551616) (hq : q.length ≤ 48) : SP 72 [U m, T q] (.tup [T (sec m q), Z 0]) := by
  have hsz := bs_size q
  have hN := Quill.numB_length 8 m
  have hs1 : sizeT Tryz.prog 5 = 1 := by kernel_rfl
  have hdl : bytesA (bs q).data.toList = bytesA q := by simp [bs]
  refine S_ Tryz.func72 (by kernel_rfl) rfl (Nat.le_of_ble_eq_true rfl) ?_
  show avc Tryz.prog SP _ _ _ _ _ _
  dsimp only [avc, startS, Array.toList, Tryz.f72]
  have hW10 := rnumk_nil 8 m (by omega) (by omega) hm2
  refine Av.Wk ?_
  refine And.intro ⟨room_b (by omega), by rw [hs1]; simp [bytesA], True.intro⟩ ?_
  refine Av.Wk ?_
  refine ⟨[6, 0], [], fun vs bl => ∃ (i n : Nat) (cs : List AV), i ≤ 48 - q.length ∧ n = 8 + q.length + i ∧ cs = bytesA (Quill.numB 8 m ++ q ++ List.replicate i 0) ∧ (vs = [.sl 0 n, U m] ∧ bl = [⟨cs, some 5, true, true⟩]),
    fun vs bl => match vs with | [.sl _ n, _] => 56 - n | _ => 0, ?_, ?_⟩
  · exact ⟨0, (Quill.numB 8 m).length + (bs q).size, _, by omega, by omega, by rw [hdl, bytesA_add]; simp, rfl, rfl⟩
  rintro vs bl ⟨i, n, cs, hi, hn, hcs, rfl, rfl⟩
  have hcl : cs.length = n := by rw [hcs, bytesA_length]; simp; omega
  by_cases hlt : n < 56
  · have hWz : Av.FzF := ⟨⟩
    refine Av.Wk ?_
    refine And.intro ⟨room_b (by omega), by rw [hs1, hcl, Nat.mul_one], by rw [hs1]; rfl, fun v hv => by rw [List.mem_singleton] at hv; subst hv; rfl⟩ ?_
    refine Av.Wk ?_
    exact ⟨⟨i + 1, n + 1, _, by omega, by omega, by rw [hcs, bytesA_snoc0, List.replicate_succ', List.append_assoc], rfl, rfl⟩, (by omega : 56 - (n + 1) < 56 - n)⟩
  · have hi2 : i = 48 - q.length := by omega
    subst hi2
    have hX : (Quill.numB 8 m ++ q ++ List.replicate (48 - q.length) 0).length = n := by simp; omega
    subst hX
    subst hcs
    repeat' ((try conv => whnf) <;> first | refine Av.hm_ ?_ | refine Av.w1 ?_ | refine Av.w2 ?_ | refine Av.w3 ?_ | refine Av.w4 ?_ | refine Av.nle rfl ?_ | refine Av.q1 ?_ | refine Av.q2 ?_ | refine Av.q3 ?_ | refine Av.q4 ?_ | refine Av.inr_ (by omega) (by omega) ?_ | refine ⟨_, rnumk_snd (Quill.numB 8 m ++ q ++ List.replicate (48 - q.length) 0) 8 m (by omega) (by omega) (by simp; omega) hm2, ?_⟩ | (refine ⟨_, ⟨rfl, rfl⟩, ?_⟩) | exact True.intro | refine Av.eqt_ (by kernel_rfl) ?_ | refine ⟨rfl, ?_⟩ | refine ⟨⟨Nat.le_of_ble_eq_true rfl, rfl⟩, ?_⟩ | refine ⟨⟨rfl, rfl⟩, ?_⟩ | refine ⟨⟨rfl, rfl, rfl⟩, ?_⟩ | exact ⟨rfl, rfl, rfl⟩ | exact ⟨rfl, rfl⟩ | ((first | refine br_lt ?_ ?_ | refine br_lt_ ?_ ?_ | refine br_le ?_ ?_ | refine br_le_ ?_ ?_ | refine br_eq ?_ ?_ | refine br_eq_ ?_ ?_ | refine br_seq ?_ ?_ | refine br_seq_ ?_ ?_) <;> intro hBr <;> first | (exfalso; omega) | (exfalso; contradiction) | (exfalso; exact hBr rfl) | skip) | refine br_not ?_ | refine br_not_ ?_ | refine br_and ?_ | refine br_and_ ?_ | refine Av.asm_ (by omega) ?_ | refine ⟨_, wrap_i64 (by omega), ?_⟩ | refine ⟨_, wrap_u64 (by omega) (by omega), ?_⟩ | refine ⟨_, wrap_u8 (by omega) (by omega), ?_⟩ | refine ⟨_, wrap_u32 (by omega) (by omega), ?_⟩ | refine ⟨_, wrap_u16 (by omega) (by omega), ?_⟩ | refine ⟨_, rfl, ?_⟩ | exact rfl)
end Go.Proofs.YtbaedepmogkkeaaGreat.Av
namespace Go.Proofs.YtbaedepmogkkeaaGreat.Av
open Go Go.RowKit
set_option linter.unusedVariables false
set_option linter.unusedSimpArgs false
set_option maxRecDepth 100000

/-- the marks at both ends -/
def hdM (t : List UInt8) : Nat := Quill.tell (t.take 8)
def tlM (t : List UInt8) : Nat := Quill.tell (t.drop 56)
theorem num_hd {t : List UInt8} (h : t.length = 64) : Quill.Sc.num ⟨t, 0, 0⟩ 8 = (hdM t, ⟨t, 8, 0⟩) := by
  unfold Quill.Sc.num
  rw [if_neg (by simp), if_neg (by simp [Quill.Sc.stands]), if_neg (by simp; omega)]
  rfl
theorem num_tl {t : List UInt8} (h : t.length = 64) : Quill.Sc.num ⟨t, 56, 0⟩ 8 = (tlM t, ⟨t, 64, 0⟩) := by
  unfold Quill.Sc.num
  rw [if_neg (by simp), if_neg (by simp [Quill.Sc.stands, h]), if_neg (by simp [h])]
  have : ((t.drop (56 : Int).toNat).take (8 : Int).toNat) = t.drop 56 := List.take_of_length_le (by simp [h])
  simp only [this]
  rfl
theorem ends_walk (t : List UInt8) (a b : Nat) (p q : Int) (h : (bs t).size = 64) (h1 : SP 126 [scM t 0 0, Z 8] (numM a t p 0)) (h2 : SP 126 [scM t (((bs t).size : Int) - 8) 0, Z 8] (numM b t q 0)) :
    SP 133 [T t] (.tup [U a, U b]) := by
  refine S_ Tryz.func133 (by kernel_rfl) rfl (Nat.le_of_ble_eq_true rfl) ?_
  show avc Tryz.prog SP _ _ _ _ _ _
  dsimp only [avc, startS, Array.toList, Tryz.f133]
  exact Av.W
theorem ends_ok (t : List UInt8) (h : t.length = 64) : SP 133 [T t] (.tup [U (hdM t), U (tlM t)]) := by
  have c1 := scannum_snd t 0 0 8 (by omega)
  have c2 := scannum_snd t 56 0 8 (by omega)
  rw [num_hd h] at c1
  rw [num_tl h] at c2
  exact ends_walk t _ _ _ _ (by rw [bs_size]; exact h) c1 (by rw [bs_size, h]; exact c2)
theorem open_len (t : List UInt8) (h : (bs t).size ≠ 64) : SP 73 [T t] (.tup [U 0, T [], Z 2]) := by
  refine S_ Tryz.func73 (by kernel_rfl) rfl (Nat.le_of_ble_eq_true rfl) ?_
  show avc Tryz.prog SP _ _ _ _ _ _
  dsimp only [avc, startS, Array.toList, Tryz.f73]
  have hW11 : Av.Mk 6 [0,0,2,1,15,31] := ⟨⟩
  exact Av.W
theorem ropen_len (t : List UInt8) (h : (bs t).size ≠ 64) : SP 75 [T t] (.tup [U 0, T [], Z 2]) := by
  refine S_ Tryz.func75 (by kernel_rfl) rfl (Nat.le_of_ble_eq_true rfl) ?_
  show avc Tryz.prog SP _ _ _ _ _ _
  dsimp only [avc, startS, Array.toList, Tryz.f75]
  have hW12 : Av.Mk 6 [0,0,2,1,15,31] := ⟨⟩
  exact Av.W
abbrev midS (t : List UInt8) : AV := .ex (.string ((bs t).extract (8 : Int).toNat (56 : Int).toNat))
theorem open_ne (t : List UInt8) (a b : Nat) (h : (bs t).size = 64) (hne : a ≠ b) (he : SP 133 [T t] (.tup [U a, U b])) : SP 73 [T t] (.tup [U 0, T [], Z 4]) := by
  refine S_ Tryz.func73 (by kernel_rfl) rfl (Nat.le_of_ble_eq_true rfl) ?_
  show avc Tryz.prog SP _ _ _ _ _ _
  dsimp only [avc, startS, Array.toList, Tryz.f73]
  have hW13 : Av.Mk 6 [0,0,2,1,15,31] := ⟨⟩
  exact Av.W
theorem open_zero (t : List UInt8) (h : (bs t).size = 64) (he : SP 133 [T t] (.tup [U 0, U 0])) : SP 73 [T t] (.tup [U 0, T [], Z 6]) := by
  refine S_ Tryz.func73 (by kernel_rfl) rfl (Nat.le_of_ble_eq_true rfl) ?_
  show avc Tryz.prog SP _ _ _ _ _ _
  dsimp only [avc, startS, Array.toList, Tryz.f73]
  have hW14 : Av.Mk 6 [0,0,2,1,15,31] := ⟨⟩
  exact Av.W
theorem open_yes (t : List UInt8) (a : Nat) (h : (bs t).size = 64) (ha : a ≠ 0) (he : SP 133 [T t] (.tup [U a, U a])) : SP 73 [T t] (.tup [U a, midS t, Z 0]) := by
  refine S_ Tryz.func73 (by kernel_rfl) rfl (Nat.le_of_ble_eq_true rfl) ?_
  show avc Tryz.prog SP _ _ _ _ _ _
  dsimp only [avc, startS, Array.toList, Tryz.f73]
  have hW15 : Av.Mk 6 [0,0,2,1,15,31] := ⟨⟩
  exact Av.W
theorem ropen_ne (t : List UInt8) (a b : Nat) (p q : Int) (h : (bs t).size = 64) (hne : a ≠ b) (h1 : SP 135 [scM t 0 0, Z 8] (numM a t p 0)) (h2 : SP 135 [scM t 56 0, Z 8] (numM b t q 0)) : SP 75 [T t] (.tup [U 0, T [], Z 4]) := by
  refine S_ Tryz.func75 (by kernel_rfl) rfl (Nat.le_of_ble_eq_true rfl) ?_
  show avc Tryz.prog SP _ _ _ _ _ _
  dsimp only [avc, startS, Array.toList, Tryz.f75]
  have hW16 : Av.Mk 6 [0,0,2,1,15,31] := ⟨⟩
  exact Av.W
theorem ropen_zero (t : List UInt8) (p q : Int) (h : (bs t).size = 64) (h1 : SP 135 [scM t 0 0, Z 8] (numM 0 t p 0)) (h2 : SP 135 [scM t 56 0, Z 8] (numM 0 t q 0)) : SP 75 [T t] (.tup [U 0, T [], Z 6]) := by
  refine S_ Tryz.func75 (by kernel_rfl) rfl (Nat.le_of_ble_eq_true rfl) ?_
  show avc Tryz.prog SP _ _ _ _ _ _
  dsimp only [avc, startS, Array.toList, Tryz.f75]
  have hW17 : Av.Mk 6 [0,0,2,1,15,31] := ⟨⟩
  exact Av.W
theorem ropen_yes (t : List UInt8) (a : Nat) (p q : Int) (h : (bs t).size = 64) (ha : a ≠ 0) (h1 : SP 135 [scM t 0 0, Z 8] (numM a t p 0)) (h2 : SP 135 [scM t 56 0, Z 8] (numM a t q 0)) : SP 75 [T t] (.tup [U a, midS t, Z 0]) := by
  refine S_ Tryz.func75 (by kernel_rfl) rfl (Nat.le_of_ble_eq_true rfl) ?_
  show avc Tryz.prog SP _ _ _ _ _ _
  dsimp only [avc, startS, Array.toList, Tryz.f75]
  have hW18 : Av.Mk 6 [0,0,2,1,15,31] := ⟨⟩
  exact Av.W
/-- what is told of a text as a sector: mark, payload, error -/
def opn (t : List UInt8) : Nat × List UInt8 × Int :=
  if t.length ≠ 64 then (0, [], 2) else if hdM t ≠ tlM t then (0, [], 4) else if hdM t = 0 then (0, [], 6) else (hdM t, (t.drop 8).take 48, 0)
theorem mid_is (t : List UInt8) : midS t = T ((t.drop 8).take 48) := by
  show AV.ex (.string _) = AV.ex (.string _)
  rw [bs_cut]; rfl
theorem open_ok (t : List UInt8) : SP 73 [T t] (.tup [U (opn t).1, T (opn t).2.1, Z (opn t).2.2]) := by
  unfold opn
  split
  · rename_i h; exact open_len t (by rw [bs_size]; exact h)
  · rename_i h
    have h : t.length = 64 := by omega
    have hb : (bs t).size = 64 := by rw [bs_size]; exact h
    have he := ends_ok t h
    split
    · rename_i hne; exact open_ne t _ _ hb hne he
    · rename_i heq
      have heq : hdM t = tlM t := by omega
      rw [← heq] at he
      split
      · rename_i h0; rw [h0] at he; exact open_zero t hb he
      · rename_i h0; rw [← mid_is]; exact open_yes t _ hb h0 he
theorem ropen_ok (t : List UInt8) : SP 75 [T t] (.tup [U (opn t).1, T (opn t).2.1, Z (opn t).2.2]) := by
  unfold opn
  split
  · rename_i h; exact ropen_len t (by rw [bs_size]; exact h)
  · rename_i h
    have h : t.length = 64 := by omega
    have hb : (bs t).size = 64 := by rw [bs_size]; exact h
    have c1 := takenum_snd t 0 0 8 (by omega)
    have c2 := takenum_snd t 56 0 8 (by omega)
    rw [num_hd h] at c1
    rw [num_tl h] at c2
    split
    · rename_i hne; exact ropen_ne t _ _ _ _ hb hne c1 c2
    · rename_i heq
      have heq : hdM t = tlM t := by omega
      rw [← heq] at c2
      split
      · rename_i h0; rw [h0] at c1 c2; exact ropen_zero t _ _ hb c1 c2
      · rename_i h0; rw [← mid_is]; exact ropen_yes t _ _ _ hb h0 c1 c2
end Go.Proofs.YtbaedepmogkkeaaGreat.Av
namespace Go.Proofs.YtbaedepmogkkeaaGreat.Av
open Go Go.RowKit
set_option linter.unusedVariables false
set_option linter.unusedSimpArgs false
set_option maxRecDepth 100000

theorem join_flat (L : List (List UInt8)) : Lib.join L [] = L.flatten := by
  cases L with
  | nil => rfl
  | cons x r =>
    rw [Lib.join_cons, List.flatten_cons, Lib.joinTail]
    congr 2
    simp
theorem glue_neg (L : List (List UInt8)) (n : Int) (h : n < 0) : SP 74 [.vs L.length (L.map T), Z n] (.tup [T [], Z 2]) := by
  refine S_ Tryz.func74 (by kernel_rfl) rfl (Nat.le_of_ble_eq_true rfl) ?_
  show avc Tryz.prog SP _ _ _ _ _ _
  dsimp only [avc, startS, Array.toList, Tryz.f74]
  exact Av.W
theorem glue_short (L : List (List UInt8)) (n : Int) (h : 0 ≤ n) (h2 : ((bs L.flatten).size : Int) < n) (hj : SP 134 [.vs L.length (L.map T), T []] (T L.flatten)) : SP 74 [.vs L.length (L.map T), Z n] (.tup [T [], Z 3]) := by
  refine S_ Tryz.func74 (by kernel_rfl) rfl (Nat.le_of_ble_eq_true rfl) ?_
  show avc Tryz.prog SP _ _ _ _ _ _
  dsimp only [avc, startS, Array.toList, Tryz.f74]
  exact Av.W
theorem glue_yes (L : List (List UInt8)) (n : Int) (h : 0 ≤ n) (h2 : n ≤ (bs L.flatten).size) (hj : SP 134 [.vs L.length (L.map T), T []] (T L.flatten)) : SP 74 [.vs L.length (L.map T), Z n] (.tup [.ex (.string ((bs L.flatten).extract (0 : Int).toNat n.toNat)), Z 0]) := by
  refine S_ Tryz.func74 (by kernel_rfl) rfl (Nat.le_of_ble_eq_true rfl) ?_
  show avc Tryz.prog SP _ _ _ _ _ _
  dsimp only [avc, startS, Array.toList, Tryz.f74]
  exact Av.W
/-- bytes out of payloads -/
def glu (L : List (List UInt8)) (n : Int) : List UInt8 × Int := if n < 0 then ([], 2) else if (L.flatten.length : Int) < n then ([], 3) else (L.flatten.take n.toNat, 0)
theorem glue_ok (L : List (List UInt8)) (n : Int) (hl : L.length ≤ 1000000) (hL : L.flatten.length ≤ 1000000000) : SP 74 [.vs L.length (L.map T), Z n] (.tup [T (glu L n).1, Z (glu L n).2]) := by
  have hj := join_snd L [] (by omega) (by rw [join_flat]; omega)
  rw [join_flat] at hj
  unfold glu
  split
  · rename_i h; exact glue_neg L n h
  · rename_i h
    split
    · rename_i h2; exact glue_short L n (by omega) (by rw [bs_size]; exact h2) hj
    · rename_i h2
      have := glue_yes L n (by omega) (by rw [bs_size]; omega) hj
      rw [bs_cut] at this
      simpa using this
theorem rglue_all (L : List (List UInt8)) (n : Int) (hl : L.length ≤ 1000000) (hL : L.flatten.length ≤ 1000000000) : SP 76 [.vs L.length (L.map T), Z n] (.tup [T (glu L n).1, Z (glu L n).2]) := by
  unfold glu
  split
  · rename_i h; exact rglue_neg L n h
  · rename_i h
    split
    · rename_i h2; exact rglue_ok L n (by omega) hl (by omega) _ _ (.inr ⟨h2, rfl, rfl⟩)
    · rename_i h2; exact rglue_ok L n (by omega) hl (by omega) _ _ (.inl ⟨by omega, rfl, rfl⟩)
end Go.Proofs.YtbaedepmogkkeaaGreat.Av
namespace Go.Proofs.YtbaedepmogkkeaaGreat.Av
open Go Go.RowKit Tre
set_option linter.unusedVariables false
set_option linter.unusedSimpArgs false
set_option maxRecDepth 100000
set_option maxHeartbeats 4000000
def mkG (g i : Nat) : Nat := g * 1048576 + i + 1
def secs (g : Nat) (t : List UInt8) (k : Nat) : List AV := (List.range k).map fun i => T (sec (mkG g i) (pc t i))
theorem lay_full {t : Tr} (h : MapS t) (g : Nat) (n : Int) (hn : n < npc (Shf.encB t.toL)) (hl : (Shf.encB t.toL).length ≤ 1000000000000) : SP 14 [trA t, U g, Z n] (.tup [nilA, Z 7]) := by
  have c1 := enc_ok h
  have c2 := cut_no (Shf.encB t.toL) n (by omega) hn
  refine S_ Tryz.func14 (by kernel_rfl) rfl (Nat.le_of_ble_eq_true rfl) ?_
  show avc Tryz.prog SP _ _ _ _ _ _
  dsimp only [avc, startS, Array.toList, Tryz.f14]
  exact Av.W
theorem room_sec {k : Nat} (hk : k ≤ 1000000000000) : room k (bytesT Tryz.prog 9) := by
  rw [show bytesT Tryz.prog 9 = 16 by kernel_rfl]; unfold room; omega
theorem secs_len (g : Nat) (t : List UInt8) (k : Nat) : (secs g t k).length = k := by simp [secs]
theorem secs_succ (g : Nat) (t : List UInt8) (k : Nat) : secs g t (k + 1) = secs g t k ++ [T (sec (mkG g k) (pc t k))] := by simp [secs, List.range_succ]
theorem zeroL_S : ∀ n, zeroL (AV.ex (.string { data := #[] })).cells n = List.replicate n (T [])
  | 0 => rfl
  | n + 1 => by
    show [AV.ex (.string _)] ++ zeroL _ n = _
    rw [zeroL_S n, List.replicate_succ]; rfl
def secD (g : Nat) (t : List UInt8) (N i : Nat) : List AV := secs g t i ++ List.replicate (N - i) (T [])
theorem secD_len (g : Nat) (t : List UInt8) {N i : Nat} (h : i ≤ N) : (secD g t N i).length = N := by
  unfold secD; rw [List.length_append, secs_len, List.length_replicate]; omega
theorem secD_set (g : Nat) (t : List UInt8) {N i : Nat} (h : i < N) : setL (secD g t N i) i [T (sec (mkG g i) (pc t i))] = secD g t N (i + 1) := by
  show (secD g t N i).set i _ = _
  unfold secD
  rw [List.set_append_right _ _ (by rw [secs_len]; omega), secs_len, Nat.sub_self, secs_succ, show N - i = (N - (i + 1)) + 1 by omega, List.replicate_succ, List.set_cons_zero, List.append_assoc]
  rfl
theorem lay_yes {t : Tr} (h : MapS t) (g : Nat) (n : Int) (hn : (npc (Shf.encB t.toL) : Int) ≤ n) (hl : (Shf.encB t.toL).length ≤ 48000000) (hg : 1 ≤ g ∧ g ≤ 1099511627776) (hp : npc (Shf.encB t.toL) < 1048575) :
    SP 14 [trA t, U g, Z n] (.tup [.own 9 (npc (Shf.encB t.toL)) (secs g (Shf.encB t.toL) (npc (Shf.encB t.toL))), Z 0]) := by
  have c1 := enc_ok h
  have c2 := cut_yes (Shf.encB t.toL) n (by omega) hn
  clear hl hn
  generalize Shf.encB t.toL = L at *
  obtain ⟨N, hN⟩ : ∃ N, N = npc L := ⟨_, rfl⟩
  rw [← hN] at hp c2 ⊢
  have hm : 0 ≤ (N : Int) ∧ (N : Int) ≤ (N : Int) ∧ room (N : Int).toNat (bytesT Tryz.prog 9) := ⟨by omega, by omega, room_sec (by omega)⟩
  refine S_ Tryz.func14 (by kernel_rfl) rfl (Nat.le_of_ble_eq_true rfl) ?_
  show avc Tryz.prog SP _ _ _ _ _ _
  dsimp only [avc, startS, Array.toList, Tryz.f14]
  repeat' ((try conv => whnf) <;> first | refine Av.hm_ ?_ | refine Av.w1 ?_ | refine Av.w2 ?_ | refine Av.w3 ?_ | refine Av.w4 ?_ | refine Av.nle rfl ?_ | refine Av.q1 ?_ | refine Av.q2 ?_ | refine Av.q3 ?_ | refine Av.q4 ?_ | refine Av.inr_ (by omega) (by omega) ?_ | refine ⟨_, c1, ?_⟩ | refine ⟨_, c2, ?_⟩ | (refine And.intro hm ?_) | exact True.intro | refine Av.eqt_ (by kernel_rfl) ?_ | refine ⟨rfl, ?_⟩ | refine ⟨⟨Nat.le_of_ble_eq_true rfl, rfl⟩, ?_⟩ | refine ⟨⟨rfl, rfl⟩, ?_⟩ | refine ⟨⟨rfl, rfl, rfl⟩, ?_⟩ | exact ⟨rfl, rfl, rfl⟩ | exact ⟨rfl, rfl⟩ | ((first | refine br_lt ?_ ?_ | refine br_lt_ ?_ ?_ | refine br_le ?_ ?_ | refine br_le_ ?_ ?_ | refine br_eq ?_ ?_ | refine br_eq_ ?_ ?_ | refine br_seq ?_ ?_ | refine br_seq_ ?_ ?_) <;> intro hBr <;> first | (exfalso; omega) | (exfalso; contradiction) | (exfalso; exact hBr rfl) | skip) | refine br_not ?_ | refine br_not_ ?_ | refine br_and ?_ | refine br_and_ ?_ | refine Av.asm_ (by omega) ?_ | refine ⟨_, wrap_i64 (by omega), ?_⟩ | refine ⟨_, wrap_u64 (by omega) (by omega), ?_⟩ | refine ⟨_, wrap_u8 (by omega) (by omega), ?_⟩ | refine ⟨_, wrap_u32 (by omega) (by omega), ?_⟩ | refine ⟨_, wrap_u16 (by omega) (by omega), ?_⟩ | refine ⟨_, rfl, ?_⟩ | exact rfl)
  refine ⟨[37, 36, 35, 11, 1], [], fun vs bl => ∃ (i : Nat) (D : List AV), i ≤ N ∧ D = secD g L N i ∧ (vs = [Z i, Z N, .sl 0 N, .sl 1 N, U g] ∧ bl = [⟨pcs L N, some 9, true, true⟩, ⟨D, some 9, false, true⟩]), muI N, ?_, ?_⟩
  · exact ⟨0, _, by omega, by rw [Int.toNat_natCast, zeroL_S]; rfl, rfl, rfl⟩
  clear c1 c2 hm
  rintro vs bl ⟨i, D, hi, hD, rfl, rfl⟩
  have hl := secD_len g L hi
  have hs1 : sizeT Tryz.prog 9 = 1 := by kernel_rfl
  by_cases hik : i < N
  · have hat : (pcs L N)[mulS (i : Int).toNat (sizeT Tryz.prog 9) + 0]? = some (T (pc L i)) := by rw [hs1, mulS_eq, Nat.mul_one, Int.toNat_natCast]; simp [pcs, hik]
    have hMi := mark_yes (g := g) (p := (i : Int)) ⟨hg.1, hg.2, by omega, by omega⟩
    rw [show (g : Int) * 1048576 + i + 1 = ((mkG g i : Nat) : Int) by unfold mkG; omega] at hMi
    have hSi := seal_yes (mkG g i) (pc L i) (by unfold mkG; omega) (by unfold mkG; omega) (by unfold pc; rw [List.length_take]; omega)
    have hidx : mulS (i : Int).toNat (sizeT Tryz.prog 9) + 1 ≤ D.length := by rw [hD, hl, hs1, mulS_eq, Nat.mul_one, Int.toNat_natCast]; omega
    have hst : setL D (mulS (i : Int).toNat (sizeT Tryz.prog 9)) [T (sec (mkG g i) (pc L i))] = secD g L N (i + 1) := by rw [hD, hs1, mulS_eq, Nat.mul_one, Int.toNat_natCast]; exact secD_set g L hik
    have hdec : muI N [Z ((i : Int) + 1)] [] < muI N [Z i] [] := by show N - ((i : Int) + 1).toNat < N - (i : Int).toNat; omega
    generalize sec (mkG g i) (pc L i) = S at *
    generalize mkG g i = M at *
    generalize pc L i = P at *
    repeat' ((try conv => whnf) <;> first | refine Av.hm_ ?_ | refine Av.w1 ?_ | refine Av.w2 ?_ | refine Av.w3 ?_ | refine Av.w4 ?_ | refine Av.nle rfl ?_ | refine Av.q1 ?_ | refine Av.q2 ?_ | refine Av.q3 ?_ | refine Av.q4 ?_ | refine Av.inr_ (by omega) (by omega) ?_ | (refine ⟨_, hat, ?_⟩) | refine ⟨_, hMi, ?_⟩ | refine ⟨_, hSi, ?_⟩ | (refine And.intro hidx ?_) | exact True.intro | refine Av.eqt_ (by kernel_rfl) ?_ | refine ⟨rfl, ?_⟩ | refine ⟨⟨Nat.le_of_ble_eq_true rfl, rfl⟩, ?_⟩ | refine ⟨⟨rfl, rfl⟩, ?_⟩ | refine ⟨⟨rfl, rfl, rfl⟩, ?_⟩ | exact ⟨rfl, rfl, rfl⟩ | exact ⟨rfl, rfl⟩ | ((first | refine br_lt ?_ ?_ | refine br_lt_ ?_ ?_ | refine br_le ?_ ?_ | refine br_le_ ?_ ?_ | refine br_eq ?_ ?_ | refine br_eq_ ?_ ?_ | refine br_seq ?_ ?_ | refine br_seq_ ?_ ?_) <;> intro hBr <;> first | (exfalso; omega) | (exfalso; contradiction) | (exfalso; exact hBr rfl) | skip) | refine br_not ?_ | refine br_not_ ?_ | refine br_and ?_ | refine br_and_ ?_ | refine Av.asm_ (by omega) ?_ | refine ⟨_, wrap_i64 (by omega), ?_⟩ | refine ⟨_, wrap_u64 (by omega) (by omega), ?_⟩ | refine ⟨_, wrap_u8 (by omega) (by omega), ?_⟩ | refine ⟨_, wrap_u32 (by omega) (by omega), ?_⟩ | refine ⟨_, wrap_u16 (by omega) (by omega), ?_⟩ | refine ⟨_, rfl, ?_⟩ | exact rfl)
    exact ⟨⟨i + 1, _, by omega, hst, rfl, rfl⟩, hdec⟩
  · obtain rfl : i = N := by omega
    rw [show secD g L i i = secs g L i by unfold secD; simp] at hD
    subst hD
    exact Av.W
theorem lay_bad {t : Tr} (h : MapS t) (g : Nat) (n : Int) (hn : (npc (Shf.encB t.toL) : Int) ≤ n) (hl : (Shf.encB t.toL).length ≤ 48000000) (hg : ¬ (1 ≤ g ∧ g ≤ 1099511627776)) :
    SP 14 [trA t, U g, Z n] (.tup [nilA, Z 2]) := by
  have c1 := enc_ok h
  have c2 := cut_yes (Shf.encB t.toL) n (by omega) hn
  have hpos : 0 < npc (Shf.encB t.toL) := by unfold npc Shf.encB; rw [List.length_append, Quill.numB_length]; omega
  have hN2 : npc (Shf.encB t.toL) ≤ 1000000 := by unfold npc; omega
  clear hl hn
  generalize Shf.encB t.toL = L at *
  obtain ⟨N, hN⟩ : ∃ N, N = npc L := ⟨_, rfl⟩
  rw [← hN] at hpos hN2 c2
  have hm : 0 ≤ (N : Int) ∧ (N : Int) ≤ (N : Int) ∧ room (N : Int).toNat (bytesT Tryz.prog 9) := ⟨by omega, by omega, room_sec (by omega)⟩
  refine S_ Tryz.func14 (by kernel_rfl) rfl (Nat.le_of_ble_eq_true rfl) ?_
  show avc Tryz.prog SP _ _ _ _ _ _
  dsimp only [avc, startS, Array.toList, Tryz.f14]
  repeat' ((try conv => whnf) <;> first | refine Av.hm_ ?_ | refine Av.w1 ?_ | refine Av.w2 ?_ | refine Av.w3 ?_ | refine Av.w4 ?_ | refine Av.nle rfl ?_ | refine Av.q1 ?_ | refine Av.q2 ?_ | refine Av.q3 ?_ | refine Av.q4 ?_ | refine Av.inr_ (by omega) (by omega) ?_ | refine ⟨_, c1, ?_⟩ | refine ⟨_, c2, ?_⟩ | (refine And.intro hm ?_) | exact True.intro | refine Av.eqt_ (by kernel_rfl) ?_ | refine ⟨rfl, ?_⟩ | refine ⟨⟨Nat.le_of_ble_eq_true rfl, rfl⟩, ?_⟩ | refine ⟨⟨rfl, rfl⟩, ?_⟩ | refine ⟨⟨rfl, rfl, rfl⟩, ?_⟩ | exact ⟨rfl, rfl, rfl⟩ | exact ⟨rfl, rfl⟩ | ((first | refine br_lt ?_ ?_ | refine br_lt_ ?_ ?_ | refine br_le ?_ ?_ | refine br_le_ ?_ ?_ | refine br_eq ?_ ?_ | refine br_eq_ ?_ ?_ | refine br_seq ?_ ?_ | refine br_seq_ ?_ ?_) <;> intro hBr <;> first | (exfalso; omega) | (exfalso; contradiction) | (exfalso; exact hBr rfl) | skip) | refine br_not ?_ | refine br_not_ ?_ | refine br_and ?_ | refine br_and_ ?_ | refine Av.asm_ (by omega) ?_ | refine ⟨_, wrap_i64 (by omega), ?_⟩ | refine ⟨_, wrap_u64 (by omega) (by omega), ?_⟩ | refine ⟨_, wrap_u8 (by omega) (by omega), ?_⟩ | refine ⟨_, wrap_u32 (by omega) (by omega), ?_⟩ | refine ⟨_, wrap_u16 (by omega) (by omega), ?_⟩ | refine ⟨_, rfl, ?_⟩ | exact rfl)
  refine ⟨[37, 36, 35, 11, 1], [], fun vs bl => ∃ (D : List AV), D.length = N ∧ (vs = [Z 0, Z N, .sl 0 N, .sl 1 N, U g] ∧ bl = [⟨pcs L N, some 9, true, true⟩, ⟨D, some 9, false, true⟩]), muI N, ?_, ?_⟩
  · exact ⟨_, by rw [Int.toNat_natCast, zeroL_S, List.length_replicate], rfl, rfl⟩
  clear c1 c2 hm
  rintro vs bl ⟨D, hD, rfl, rfl⟩
  have hs1 : sizeT Tryz.prog 9 = 1 := by kernel_rfl
  have hat : (pcs L N)[mulS (0 : Int).toNat (sizeT Tryz.prog 9) + 0]? = some (T (pc L 0)) := by rw [hs1, mulS_eq, Nat.mul_one]; simp [pcs, hpos]
  have hMi := mark_no (g := g) (p := 0) (fun h => hg ⟨h.1, h.2.1⟩)
  exact Av.W
end Go.Proofs.YtbaedepmogkkeaaGreat.Av
namespace Go.Proofs.YtbaedepmogkkeaaGreat.Av
open Go Go.RowKit Tre
set_option linter.unusedVariables false
set_option linter.unusedSimpArgs false
set_option maxRecDepth 100000
set_option maxHeartbeats 4000000
abbrev lsA (L : List (List UInt8)) : AV := .vs L.length (L.map T)
theorem read_gen (L : List (List UInt8)) (g : Nat) (n : Int) (hg : ¬ (1 ≤ g ∧ g ≤ 1099511627776)) : SP 16 [lsA L, U g, Z n] (.tup [treeO [], Z 2]) := by
  have c1 := mark_no (g := g) (p := 0) (fun h => hg ⟨h.1, h.2.1⟩)
  refine S_ Tryz.func16 (by kernel_rfl) rfl (Nat.le_of_ble_eq_true rfl) ?_
  show avc Tryz.prog SP _ _ _ _ _ _
  dsimp only [avc, startS, Array.toList, Tryz.f16]
  exact Av.W
theorem mark_0 {g : Nat} (hg : 1 ≤ g ∧ g ≤ 1099511627776) : SP 66 [U g, Z 0] (.tup [U (mkG g 0 : Nat), Z 0]) := by
  have c1 := mark_yes (g := g) (p := 0) ⟨hg.1, hg.2, by omega, by omega⟩
  rw [show (g : Int) * 1048576 + 0 + 1 = ((mkG g 0 : Nat) : Int) by unfold mkG; omega] at c1
  exact c1
theorem read_neg (L : List (List UInt8)) (g : Nat) (n : Int) (hg : 1 ≤ g ∧ g ≤ 1099511627776) (hn : n < 0) : SP 16 [lsA L, U g, Z n] (.tup [treeO [], Z 2]) := by
  have c1 := mark_0 hg
  refine S_ Tryz.func16 (by kernel_rfl) rfl (Nat.le_of_ble_eq_true rfl) ?_
  show avc Tryz.prog SP _ _ _ _ _ _
  dsimp only [avc, startS, Array.toList, Tryz.f16]
  exact Av.W
theorem read_few (L : List (List UInt8)) (g : Nat) (n : Int) (hg : 1 ≤ g ∧ g ≤ 1099511627776) (hn : 0 ≤ n) (hn2 : n ≤ 9223372036854775807) (hl : (L.length : Int) < cntP n) : SP 16 [lsA L, U g, Z n] (.tup [treeO [], Z 3]) := by
  have c1 := mark_0 hg
  have c2 := sectors_ok n hn2
  refine S_ Tryz.func16 (by kernel_rfl) rfl (Nat.le_of_ble_eq_true rfl) ?_
  show avc Tryz.prog SP _ _ _ _ _ _
  dsimp only [avc, startS, Array.toList, Tryz.f16]
  exact Av.W
/-- a sector of a generation, at its place -/
def isS (g i : Nat) (s : List UInt8) : Prop := (opn s).2.2 = 0 ∧ (opn s).1 = mkG g i
instance (g i : Nat) (s : List UInt8) : Decidable (isS g i s) := by unfold isS; infer_instance
def payC (L : List (List UInt8)) : List (List UInt8) := L.map fun s => (opn s).2.1
theorem payC_succ {L : List (List UInt8)} {i : Nat} (h : i < L.length) : payC (L.take (i + 1)) = payC (L.take i) ++ [(opn L[i]).2.1] := by
  unfold payC
  rw [List.take_add_one, List.getElem?_eq_getElem h, List.map_append]; rfl
theorem lA_at {L : List (List UInt8)} {m i : Nat} (hi : i < m) (hm : m ≤ L.length) : ((L.take m).map T)[mulS (i : Int).toNat (sizeT Tryz.prog 9) + 0]? = some (T (L[i]'(by omega))) := by
  rw [show sizeT Tryz.prog 9 = 1 by kernel_rfl, mulS_eq, Nat.mul_one, Int.toNat_natCast, Nat.add_zero, List.getElem?_map, List.getElem?_take, if_pos hi, List.getElem?_eq_getElem (by omega)]; rfl
def RRInv (L : List (List UInt8)) (g m : Nat) (n : Int) (vs : List AV) (bl : List ABlk) : Prop :=
  ∃ (i : Nat) (acc : List (List UInt8)) (k : Nat) (cs D : List AV), i ≤ m ∧ k = m ∧ cs = (L.take m).map T ∧ acc = payC (L.take i) ∧ (∀ j (h : j < L.length), j < i → isS g j L[j]) ∧ D = acc.map T ∧
    (vs = [Z i, Z k, .vs k cs, U (mkG g 0 : Nat), Z n, .ptr 0 0, .sl 1 i] ∧ bl = [⟨[.ex (.pointer none)], none, false, true⟩, ⟨D, some 9, false, true⟩])
theorem read_walk (L : List (List UInt8)) (g : Nat) (n : Int) (m : Nat) (R : AV) (E : Int) (hg : 1 ≤ g ∧ g ≤ 1099511627776) (hn : 0 ≤ n) (hn2 : n ≤ 9223372036854775807) (hm : cntP n = m) (hl : m ≤ L.length) (hL : m ≤ 1000000)
    (hbad : ∀ j (h : j < L.length), j < m → ¬ isS g j L[j] → R = treeO [] ∧ E = 4)
    (hgood : (∀ j (h : j < L.length), j < m → isS g j L[j]) → ∃ t u e, SP 74 [.vs (payC (L.take m)).length ((payC (L.take m)).map T), Z n] (.tup [T t, Z u]) ∧ SP 62 [T t] (.tup [treeO e, Z E]) ∧ R = treeO e) :
    SP 16 [lsA L, U g, Z n] (.tup [R, Z E]) := by
  have c1 := mark_0 hg
  have c2 := sectors_ok n hn2
  rw [hm] at c2
  have hs1 : sizeT Tryz.prog 9 = 1 := by kernel_rfl
  have hcut : 0 ≤ (0 : Int) ∧ 0 ≤ (m : Int) ∧ (m : Int) ≤ ((L.length : Nat) : Int) ∧ L.length * sizeT Tryz.prog 9 ≤ (L.map T).length := ⟨by omega, by omega, by omega, by rw [hs1, List.length_map]; omega⟩
  refine S_ Tryz.func16 (by kernel_rfl) rfl (Nat.le_of_ble_eq_true rfl) ?_
  show avc Tryz.prog SP _ _ _ _ _ _
  dsimp only [avc, startS, Array.toList, Tryz.f16]
  repeat' ((try conv => whnf) <;> first | refine Av.hm_ ?_ | refine Av.w1 ?_ | refine Av.w2 ?_ | refine Av.w3 ?_ | refine Av.w4 ?_ | refine Av.nle rfl ?_ | refine Av.q1 ?_ | refine Av.q2 ?_ | refine Av.q3 ?_ | refine Av.q4 ?_ | refine Av.inr_ (by omega) (by omega) ?_ | refine ⟨_, c1, ?_⟩ | refine ⟨_, c2, ?_⟩ | (refine And.intro hcut ?_) | exact True.intro | refine Av.eqt_ (by kernel_rfl) ?_ | refine ⟨rfl, ?_⟩ | refine ⟨⟨Nat.le_of_ble_eq_true rfl, rfl⟩, ?_⟩ | refine ⟨⟨rfl, rfl⟩, ?_⟩ | refine ⟨⟨rfl, rfl, rfl⟩, ?_⟩ | exact ⟨rfl, rfl, rfl⟩ | exact ⟨rfl, rfl⟩ | ((first | refine br_lt ?_ ?_ | refine br_lt_ ?_ ?_ | refine br_le ?_ ?_ | refine br_le_ ?_ ?_ | refine br_eq ?_ ?_ | refine br_eq_ ?_ ?_ | refine br_seq ?_ ?_ | refine br_seq_ ?_ ?_) <;> intro hBr <;> first | (exfalso; omega) | (exfalso; contradiction) | (exfalso; exact hBr rfl) | skip) | refine br_not ?_ | refine br_not_ ?_ | refine br_and ?_ | refine br_and_ ?_ | refine Av.asm_ (by omega) ?_ | refine ⟨_, wrap_i64 (by omega), ?_⟩ | refine ⟨_, wrap_u64 (by omega) (by omega), ?_⟩ | refine ⟨_, wrap_u8 (by omega) (by omega), ?_⟩ | refine ⟨_, wrap_u32 (by omega) (by omega), ?_⟩ | refine ⟨_, wrap_u16 (by omega) (by omega), ?_⟩ | refine ⟨_, rfl, ?_⟩ | exact rfl)
  refine ⟨[42, 41, 40, 8, 2, 6, 11], [(11, some 9)], RRInv L g m n, muI m, ?_, ?_⟩
  · exact ⟨0, [], _, _, [], by omega, by simp, by rw [hs1, mulS_eq, mulS_eq, takeL]; simp, rfl, fun j _ h => absurd h (by omega), rfl, rfl, rfl⟩
  clear c1 c2 hcut
  rintro vs bl ⟨i, acc, k, cs, D, hi, rfl, hcs, hacc, hgd, hD, rfl, rfl⟩
  have hDl : D.length = i * sizeT Tryz.prog 9 := by rw [hD, hs1, List.length_map, hacc]; unfold payC; rw [List.length_map, List.length_take]; omega
  by_cases hik : i < k
  · have hat : cs[mulS (i : Int).toNat (sizeT Tryz.prog 9) + 0]? = some (T (L[i]'(by omega))) := by rw [hcs]; exact lA_at hik hl
    have hO := open_ok (L[i]'(by omega))
    have hdec : muI k [Z ((i : Int) + 1)] [] < muI k [Z i] [] := by show k - ((i : Int) + 1).toNat < k - (i : Int).toNat; omega
    have hms : ((mkG g 0 : Nat) : Int) + i = ((mkG g i : Nat) : Int) := by unfold mkG; omega
    have hmb : mkG g i < 18446744073709551616 := by unfold mkG; omega
    by_cases hS : isS g i (L[i]'(by omega))
    · have ap : room (i + 1) (bytesT Tryz.prog 9) ∧ D.length = i * sizeT Tryz.prog 9 ∧ ([T (opn (L[i]'(by omega))).2.1] : List AV).length = 1 * sizeT Tryz.prog 9 ∧ ∀ u ∈ ([T (opn (L[i]'(by omega))).2.1] : List AV), one1 u = true := ⟨room_sec (by omega), hDl, by rw [hs1]; rfl, one_S _⟩
      have fin : RRInv L g k n [Z ((i : Int) + 1), Z k, .vs k cs, U (mkG g 0 : Nat), Z n, .ptr 0 0, .sl 1 (i + 1)] [⟨[.ex (.pointer none)], none, false, true⟩, ⟨D ++ [T (opn (L[i]'(by omega))).2.1], some 9, false, true⟩] :=
        ⟨i + 1, _, k, cs, _, by omega, rfl, hcs, rfl, fun j h hj => by
          by_cases h1 : j < i
          · exact hgd j h h1
          · obtain rfl : j = i := by omega
            exact hS, by rw [hD, hacc, payC_succ (show i < L.length by omega), List.map_append]; rfl, rfl, rfl⟩
      obtain ⟨s1, s2⟩ := hS
      rw [s1, s2] at hO
      obtain ⟨M, hM⟩ : ∃ M, M = mkG g i := ⟨_, rfl⟩
      rw [← hM] at hms hmb hO
      clear hM s1 s2
      generalize mkG g 0 = F at hms fin ⊢
      obtain ⟨P, hP⟩ : ∃ P, P = (opn (L[i]'(by omega))).2.1 := ⟨_, rfl⟩
      rw [← hP] at hO ap fin
      clear hP
      clear hgd hgood hbad hD hcs hacc hDl
      repeat' ((try conv => whnf) <;> first | refine Av.hm_ ?_ | refine Av.w1 ?_ | refine Av.w2 ?_ | refine Av.w3 ?_ | refine Av.w4 ?_ | refine Av.nle rfl ?_ | refine Av.q1 ?_ | refine Av.q2 ?_ | refine Av.q3 ?_ | refine Av.q4 ?_ | refine Av.inr_ (by omega) (by omega) ?_ | (refine ⟨_, hat, ?_⟩) | refine ⟨_, hO, ?_⟩ | (refine ⟨false, ?_⟩) | (refine And.intro ap ?_) | exact True.intro | refine Av.eqt_ (by kernel_rfl) ?_ | refine ⟨rfl, ?_⟩ | refine ⟨⟨Nat.le_of_ble_eq_true rfl, rfl⟩, ?_⟩ | refine ⟨⟨rfl, rfl⟩, ?_⟩ | refine ⟨⟨rfl, rfl, rfl⟩, ?_⟩ | exact ⟨rfl, rfl, rfl⟩ | exact ⟨rfl, rfl⟩ | ((first | refine br_lt ?_ ?_ | refine br_lt_ ?_ ?_ | refine br_le ?_ ?_ | refine br_le_ ?_ ?_ | refine br_eq ?_ ?_ | refine br_eq_ ?_ ?_ | refine br_seq ?_ ?_ | refine br_seq_ ?_ ?_) <;> intro hBr <;> first | (exfalso; omega) | (exfalso; contradiction) | (exfalso; exact hBr rfl) | skip) | refine br_not ?_ | refine br_not_ ?_ | refine br_and ?_ | refine br_and_ ?_ | refine Av.asm_ (by omega) ?_ | refine ⟨_, wrap_i64 (by omega), ?_⟩ | refine ⟨_, wrap_u64 (by omega) (by omega), ?_⟩ | refine ⟨_, wrap_u8 (by omega) (by omega), ?_⟩ | refine ⟨_, wrap_u32 (by omega) (by omega), ?_⟩ | refine ⟨_, wrap_u16 (by omega) (by omega), ?_⟩ | refine ⟨_, rfl, ?_⟩ | exact rfl)
      exact hdec
    · obtain ⟨rfl, rfl⟩ := hbad i (by omega) hik hS
      have hne : (opn (L[i]'(by omega))).2.2 ≠ 0 ∨ (opn (L[i]'(by omega))).1 ≠ mkG g i := by unfold isS at hS; omega
      obtain ⟨a, b, c, ho⟩ : ∃ a b c, opn (L[i]'(by omega)) = (a, b, c) := ⟨_, _, _, rfl⟩
      rw [ho] at hO hne
      simp only at hO hne
      obtain ⟨M, hM⟩ : ∃ M, M = mkG g i := ⟨_, rfl⟩
      rw [← hM] at hms hmb hne
      clear hM
      generalize mkG g 0 = F at hms ⊢
      have hda : c = 0 → (a : Int) ≠ (M : Int) := fun h h2 => by omega
      clear hne
      clear hgd hgood hbad hD hcs hacc hDl hS ho
      by_cases hc : c = 0
      · subst hc
        have hda := hda rfl
        repeat' ((try conv => whnf) <;> first | refine Av.hm_ ?_ | refine Av.w1 ?_ | refine Av.w2 ?_ | refine Av.w3 ?_ | refine Av.w4 ?_ | refine Av.nle rfl ?_ | refine Av.q1 ?_ | refine Av.q2 ?_ | refine Av.q3 ?_ | refine Av.q4 ?_ | refine Av.inr_ (by omega) (by omega) ?_ | (refine ⟨_, hat, ?_⟩) | refine ⟨_, hO, ?_⟩ | exact True.intro | refine Av.eqt_ (by kernel_rfl) ?_ | refine ⟨rfl, ?_⟩ | refine ⟨⟨Nat.le_of_ble_eq_true rfl, rfl⟩, ?_⟩ | refine ⟨⟨rfl, rfl⟩, ?_⟩ | refine ⟨⟨rfl, rfl, rfl⟩, ?_⟩ | exact ⟨rfl, rfl, rfl⟩ | exact ⟨rfl, rfl⟩ | ((first | refine br_lt ?_ ?_ | refine br_lt_ ?_ ?_ | refine br_le ?_ ?_ | refine br_le_ ?_ ?_ | refine br_eq ?_ ?_ | refine br_eq_ ?_ ?_ | refine br_seq ?_ ?_ | refine br_seq_ ?_ ?_) <;> intro hBr <;> first | (exfalso; omega) | (exfalso; contradiction) | (exfalso; exact hBr rfl) | skip) | refine br_not ?_ | refine br_not_ ?_ | refine br_and ?_ | refine br_and_ ?_ | refine Av.asm_ (by omega) ?_ | refine ⟨_, wrap_i64 (by omega), ?_⟩ | refine ⟨_, wrap_u64 (by omega) (by omega), ?_⟩ | refine ⟨_, wrap_u8 (by omega) (by omega), ?_⟩ | refine ⟨_, wrap_u32 (by omega) (by omega), ?_⟩ | refine ⟨_, wrap_u16 (by omega) (by omega), ?_⟩ | refine ⟨_, rfl, ?_⟩ | exact rfl)
      · clear hda
        repeat' ((try conv => whnf) <;> first | refine Av.hm_ ?_ | refine Av.w1 ?_ | refine Av.w2 ?_ | refine Av.w3 ?_ | refine Av.w4 ?_ | refine Av.nle rfl ?_ | refine Av.q1 ?_ | refine Av.q2 ?_ | refine Av.q3 ?_ | refine Av.q4 ?_ | refine Av.inr_ (by omega) (by omega) ?_ | (refine ⟨_, hat, ?_⟩) | refine ⟨_, hO, ?_⟩ | exact True.intro | refine Av.eqt_ (by kernel_rfl) ?_ | refine ⟨rfl, ?_⟩ | refine ⟨⟨Nat.le_of_ble_eq_true rfl, rfl⟩, ?_⟩ | refine ⟨⟨rfl, rfl⟩, ?_⟩ | refine ⟨⟨rfl, rfl, rfl⟩, ?_⟩ | exact ⟨rfl, rfl, rfl⟩ | exact ⟨rfl, rfl⟩ | ((first | refine br_lt ?_ ?_ | refine br_lt_ ?_ ?_ | refine br_le ?_ ?_ | refine br_le_ ?_ ?_ | refine br_eq ?_ ?_ | refine br_eq_ ?_ ?_ | refine br_seq ?_ ?_ | refine br_seq_ ?_ ?_) <;> intro hBr <;> first | (exfalso; omega) | (exfalso; contradiction) | (exfalso; exact hBr rfl) | skip) | refine br_not ?_ | refine br_not_ ?_ | refine br_and ?_ | refine br_and_ ?_ | refine Av.asm_ (by omega) ?_ | refine ⟨_, wrap_i64 (by omega), ?_⟩ | refine ⟨_, wrap_u64 (by omega) (by omega), ?_⟩ | refine ⟨_, wrap_u8 (by omega) (by omega), ?_⟩ | refine ⟨_, wrap_u32 (by omega) (by omega), ?_⟩ | refine ⟨_, wrap_u16 (by omega) (by omega), ?_⟩ | refine ⟨_, rfl, ?_⟩ | exact rfl)
  · obtain rfl : i = k := by omega
    obtain ⟨t, u, e, cg, cd, rfl⟩ := hgood fun j h hj => hgd j h hj
    have hal : acc.length = i := by rw [hacc]; unfold payC; rw [List.length_map, List.length_take]; omega
    rw [← hacc, ← hD, hal] at cg
    clear hgd hgood hbad hD hcs hacc hDl
    cases e with
    | nil =>
      repeat' ((try conv => whnf) <;> first | refine Av.hm_ ?_ | refine Av.w1 ?_ | refine Av.w2 ?_ | refine Av.w3 ?_ | refine Av.w4 ?_ | refine Av.nle rfl ?_ | refine Av.q1 ?_ | refine Av.q2 ?_ | refine Av.q3 ?_ | refine Av.q4 ?_ | refine Av.inr_ (by omega) (by omega) ?_ | refine ⟨_, cg, ?_⟩ | refine ⟨_, cd, ?_⟩ | exact True.intro | refine Av.eqt_ (by kernel_rfl) ?_ | refine ⟨rfl, ?_⟩ | refine ⟨⟨Nat.le_of_ble_eq_true rfl, rfl⟩, ?_⟩ | refine ⟨⟨rfl, rfl⟩, ?_⟩ | refine ⟨⟨rfl, rfl, rfl⟩, ?_⟩ | exact ⟨rfl, rfl, rfl⟩ | exact ⟨rfl, rfl⟩ | ((first | refine br_lt ?_ ?_ | refine br_lt_ ?_ ?_ | refine br_le ?_ ?_ | refine br_le_ ?_ ?_ | refine br_eq ?_ ?_ | refine br_eq_ ?_ ?_ | refine br_seq ?_ ?_ | refine br_seq_ ?_ ?_) <;> intro hBr <;> first | (exfalso; omega) | (exfalso; contradiction) | (exfalso; exact hBr rfl) | skip) | refine br_not ?_ | refine br_not_ ?_ | refine br_and ?_ | refine br_and_ ?_ | refine Av.asm_ (by omega) ?_ | refine ⟨_, wrap_i64 (by omega), ?_⟩ | refine ⟨_, wrap_u64 (by omega) (by omega), ?_⟩ | refine ⟨_, wrap_u8 (by omega) (by omega), ?_⟩ | refine ⟨_, wrap_u32 (by omega) (by omega), ?_⟩ | refine ⟨_, wrap_u16 (by omega) (by omega), ?_⟩ | refine ⟨_, rfl, ?_⟩ | exact rfl)
    | cons a l =>
      repeat' ((try conv => whnf) <;> first | refine Av.hm_ ?_ | refine Av.w1 ?_ | refine Av.w2 ?_ | refine Av.w3 ?_ | refine Av.w4 ?_ | refine Av.nle rfl ?_ | refine Av.q1 ?_ | refine Av.q2 ?_ | refine Av.q3 ?_ | refine Av.q4 ?_ | refine Av.inr_ (by omega) (by omega) ?_ | refine ⟨_, cg, ?_⟩ | refine ⟨_, cd, ?_⟩ | exact True.intro | refine Av.eqt_ (by kernel_rfl) ?_ | refine ⟨rfl, ?_⟩ | refine ⟨⟨Nat.le_of_ble_eq_true rfl, rfl⟩, ?_⟩ | refine ⟨⟨rfl, rfl⟩, ?_⟩ | refine ⟨⟨rfl, rfl, rfl⟩, ?_⟩ | exact ⟨rfl, rfl, rfl⟩ | exact ⟨rfl, rfl⟩ | ((first | refine br_lt ?_ ?_ | refine br_lt_ ?_ ?_ | refine br_le ?_ ?_ | refine br_le_ ?_ ?_ | refine br_eq ?_ ?_ | refine br_eq_ ?_ ?_ | refine br_seq ?_ ?_ | refine br_seq_ ?_ ?_) <;> intro hBr <;> first | (exfalso; omega) | (exfalso; contradiction) | (exfalso; exact hBr rfl) | skip) | refine br_not ?_ | refine br_not_ ?_ | refine br_and ?_ | refine br_and_ ?_ | refine Av.asm_ (by omega) ?_ | refine ⟨_, wrap_i64 (by omega), ?_⟩ | refine ⟨_, wrap_u64 (by omega) (by omega), ?_⟩ | refine ⟨_, wrap_u8 (by omega) (by omega), ?_⟩ | refine ⟨_, wrap_u32 (by omega) (by omega), ?_⟩ | refine ⟨_, wrap_u16 (by omega) (by omega), ?_⟩ | refine ⟨_, rfl, ?_⟩ | exact rfl)
/-- what is read of sectors: the pairs, or why there are none -/
def rd (L : List (List UInt8)) (g : Nat) (n : Int) : List Pr × Int :=
  if ¬ (1 ≤ g ∧ g ≤ 1099511627776) ∨ n < 0 then ([], 2) else if (L.length : Int) < cntP n then ([], 3)
  else if ∀ j (h : j < L.length), j < (cntP n).toNat → isS g j L[j] then Shf.dec (glu (payC (L.take (cntP n).toNat)) n).1 else ([], 4)
theorem opn_len (s : List UInt8) : (opn s).2.1.length ≤ 48 := by
  unfold opn
  split
  · exact Nat.zero_le _
  · split
    · exact Nat.zero_le _
    · split
      · exact Nat.zero_le _
      · show ((s.drop 8).take 48).length ≤ 48
        rw [List.length_take]; omega
theorem payC_flat : ∀ L : List (List UInt8), (payC L).flatten.length ≤ 48 * L.length
  | [] => by simp [payC]
  | s :: L => by
    have h1 := opn_len s
    have h2 := payC_flat L
    show ((opn s).2.1 ++ (payC L).flatten).length ≤ 48 * (L.length + 1)
    rw [List.length_append]; omega
theorem glu_len (L : List (List UInt8)) (n : Int) : (glu L n).1.length ≤ L.flatten.length := by
  unfold glu
  split
  · exact Nat.zero_le _
  · split
    · exact Nat.zero_le _
    · show (L.flatten.take n.toNat).length ≤ _
      rw [List.length_take]; omega
theorem read_ok (L : List (List UInt8)) (g : Nat) (n : Int) (hn2 : n ≤ 9223372036854775807) (hL : L.length ≤ 1000000) : SP 16 [lsA L, U g, Z n] (.tup [treeO (rd L g n).1, Z (rd L g n).2]) := by
  unfold rd
  by_cases hg : 1 ≤ g ∧ g ≤ 1099511627776
  · by_cases hn : n < 0
    · rw [if_pos (.inr hn)]; exact read_neg L g n hg hn
    · rw [if_neg (fun h => h.elim (fun h => h hg) hn)]
      have hn : 0 ≤ n := by omega
      by_cases hl : (L.length : Int) < cntP n
      · rw [if_pos hl]; exact read_few L g n hg hn hn2 hl
      · rw [if_neg hl]
        have hc0 : 0 ≤ cntP n := by unfold cntP; split <;> omega
        obtain ⟨m, hm⟩ : ∃ m : Nat, cntP n = m := ⟨(cntP n).toNat, by omega⟩
        rw [hm, Int.toNat_natCast]
        have hl : m ≤ L.length := by omega
        have hpl : (payC (L.take m)).length ≤ 1000000 := by unfold payC; rw [List.length_map, List.length_take]; omega
        have hfl : (payC (L.take m)).flatten.length ≤ 48000000 := by
          have := payC_flat (L.take m)
          rw [List.length_take] at this
          omega
        have hgl := glu_len (payC (L.take m)) n
        by_cases hs : ∀ j (h : j < L.length), j < m → isS g j L[j]
        · rw [if_pos hs]
          exact read_walk L g n m _ _ hg hn hn2 hm hl (by omega) (fun j h hj hb => absurd (hs j h hj) hb) fun _ => ⟨_, _, _, glue_ok _ n hpl (by omega), sdec_ok _ (by omega), rfl⟩
        · rw [if_neg hs]
          exact read_walk L g n m _ _ hg hn hn2 hm hl (by omega) (fun j h hj hb => ⟨rfl, rfl⟩) fun h => absurd h hs
  · rw [if_pos (.inl hg)]; exact read_gen L g n hg
end Go.Proofs.YtbaedepmogkkeaaGreat.Av
namespace Go.Proofs.YtbaedepmogkkeaaGreat.Av
open Go Go.RowKit Tre
set_option linter.unusedVariables false
set_option linter.unusedSimpArgs false
set_option maxRecDepth 100000
set_option maxHeartbeats 4000000
theorem zwS {f : FuncId} {l : List AV} {r : AV} (h : SP f (trA .nil :: l) r) : SP f (zTr :: l) r := by
  refine Sound.weak h (by simp) fun w F j h1 h2 x hx => ?_
  cases j with
  | zero => exact zrepO hx
  | succ j => exact hx
theorem apply_good : ∀ (os : List OpP) (t : Tr), Tr.Good t → Tr.Good (Tr.apply os t) ∧ (Tr.apply os t).toL = applyL os t.toL
  | [], t, h => ⟨h, rfl⟩
  | o :: os, t, h => by
    obtain ⟨g, e⟩ := h.step o
    obtain ⟨g2, e2⟩ := apply_good os _ g
    exact ⟨g2, by show (Tr.apply os (t.step o)).toL = _; rw [e2, e]; rfl⟩
theorem key_le : ∀ {l : List Pr} {x : Pr}, x ∈ l → x.1.length + x.2.length ≤ bytesL l
  | [], x, h => by cases h
  | (a, b) :: l, x, h => by
    simp only [bytesL]
    rcases List.mem_cons.1 h with rfl | h
    · show a.length + b.length ≤ _; omega
    · have := key_le h; omega
/-- the map that ops make out of nothing, and its pairs -/
structure MadeS (os : List OpP) (U : Tr) (r : List Pr) : Prop where
  good : Tr.Good U
  list : U.toL = r
  len : r.length ≤ 50
  bytes : bytesL r ≤ 57700
  made : SP 13 [.vs os.length (opC os)] (.tup [trA U, .vs r.length (prC r)])
theorem over_inS {os : List OpP} (h : ¬ Over13 os) : os.length ≤ 50 ∧ ∀ o ∈ os, o.2.1.length ≤ 150 ∧ o.2.2.length ≤ 1000 := by
  refine ⟨?_, fun o ho => ?_⟩
  · apply Classical.byContradiction; intro e; exact h (.inl (by omega))
  · constructor <;> (apply Classical.byContradiction; intro e; exact h (.inr ⟨o, ho, by omega⟩))
theorem made_walk (os : List OpP) (U : Tr) (r : List Pr) (hc : SP 44 [.vs os.length (opC os)] (.vs os.length (opC os))) (ht : SP 54 [zTr, .vs os.length (opC os)] (trA U)) (hr : SP 49 [nilA, .vs os.length (opC os)] (.vs r.length (prC r))) :
    SP 13 [.vs os.length (opC os)] (.tup [trA U, .vs r.length (prC r)]) := by
  refine S_ Tryz.func13 (by kernel_rfl) rfl (Nat.le_of_ble_eq_true rfl) ?_
  show avc Tryz.prog SP _ _ _ _ _ _
  dsimp only [avc, startS, Array.toList, Tryz.f13]
  have hW19 : Av.Mk 8 [0,0,2,7,0,31,63,127] := ⟨⟩
  exact Av.W
theorem made_of {os : List OpP} (h : ¬ Over13 os) : MadeS os (Tr.apply os .nil) (applyL os []) := by
  obtain ⟨hn, hk⟩ := over_inS h
  obtain ⟨g, e⟩ := apply_good os .nil Tr.good_nil
  have e : (Tr.apply os .nil).toL = applyL os [] := e
  have z := Tre.applyL_len (a := 150) (b := 1000) os [] (fun o ho => hk o ho)
  have z0 : bytesL ([] : List Pr) = 0 := rfl
  obtain ⟨z1, z2⟩ := z
  simp only [List.length_nil] at z1
  refine ⟨g, e, by omega, by omega, made_walk os _ _ (own13_ok os (by omega)) ?_ ?_⟩
  · exact zwS (tapply_ok Tr.good_nil ⟨by show (0 : Int) + _ ≤ _; omega, fun o ho => by have := hk o ho; omega, by show (0 : Int) + _ ≤ _; omega⟩ _ rfl)
  · exact papply_nil os (by omega) (fun o ho => by have := hk o ho; omega) _ rfl
theorem MadeS.map {os : List OpP} {U : Tr} {r : List Pr} (h : MadeS os U r) : MapS U := by
  refine ⟨h.good, ?_, ?_⟩
  · rw [h.list]; have := h.len; omega
  · rw [h.list]
    intro x hx
    have := key_le hx
    have := h.bytes
    omega
theorem MadeS.wt {os : List OpP} {U : Tr} {r : List Pr} (h : MadeS os U r) : U.wt = (bytesL r : Int) := by rw [Tr.wt_len, h.list]
end Go.Proofs.YtbaedepmogkkeaaGreat.Av
namespace Go.Proofs.YtbaedepmogkkeaaGreat.Av
open Go Go.RowKit Tre
set_option linter.unusedVariables false
set_option linter.unusedSimpArgs false
set_option maxRecDepth 100000
set_option maxHeartbeats 4000000
abbrev S11 : List UInt8 := [0, 0, 0, 1, 0, 1, 97, 0, 2, 120, 121]
theorem awake15_walk (T1 : Tr) (x : List UInt8) (p1 : SP 60 [zTr, T [97], T [120, 121]] (trA T1)) (e1 : SP 61 [trA T1] (.tup [T S11, Z 0])) (d1 : SP 62 [T S11] (.tup [trA T1, Z 0]))
    (y1 : SP 14 [trA T1, U 3, Z 9] (.tup [.own 9 1 [T x], Z 0])) (z1 : SP 63 [trA T1] (Z 11)) (r1 : SP 16 [.vs 1 [T x], U 3, Z 11] (.tup [trA T1, Z 0])) (r2 : SP 16 [.vs 1 [T x], U 4, Z 11] (.tup [zTr, Z 4]))
    (y2 : SP 14 [trA T1, U 3, Z 0] (.tup [nilA, Z 7])) (s1 : SP 56 [trA T1, trA T1] (B true)) (z0 : SP 63 [zTr] (Z 4)) (k1 : SP 64 [Z 49] (Z 2)) : SP 12 [] (B true) := by
  refine S_ Tryz.func12 (by kernel_rfl) rfl (Nat.le_of_ble_eq_true rfl) ?_
  show avc Tryz.prog SP _ _ _ _ _ _
  dsimp only [avc, startS, Array.toList, Tryz.f12]
  exact Av.W
theorem awake15_ok : SP 12 [] (B true) := by
  obtain ⟨T1, hT1⟩ : ∃ T, T = ofL [([97], [120, 121])] := ⟨_, rfl⟩
  obtain ⟨g1, l1⟩ : Tr.Good T1 ∧ T1.toL = [([97], [120, 121])] := by
    rw [hT1]
    obtain ⟨a, b⟩ := Tr.good_nil.put [97] [120, 121]
    exact ⟨a, b.trans (by kernel_rfl)⟩
  have hw : T1.wt = 7 := by rw [Tr.wt_len, l1]; kernel_rfl
  have p1 := zwS (tput_ok (t := .nil) (k := [97]) (v := [120, 121]) ⟨by decide, by decide⟩)
  rw [show Tr.put [97] [120, 121] .nil = T1 from hT1.symm] at p1
  have hM : MapS T1 := ⟨g1, by rw [l1]; decide, by rw [l1]; intro x hx; rw [List.mem_singleton] at hx; subst hx; decide⟩
  have e1 := enc_ok hM
  have hE : Shf.encB T1.toL = S11 := by rw [l1]; decide +kernel
  have d1 := sdec_ok S11 (by decide)
  rw [show Shf.dec S11 = ([([97], [120, 121])], 0) by decide +kernel] at d1
  rw [show treeO [([97], [120, 121])] = trA T1 by rw [hT1]; rfl] at d1
  have hn : npc S11 = 1 := by decide
  have y1 := lay_yes hM 3 9 (by rw [hE, hn]; decide) (by rw [hE]; decide) (by decide) (by rw [hE, hn]; decide)
  have y2 := lay_full hM 3 0 (by rw [hE, hn]; decide) (by rw [hE]; decide)
  rw [hE] at e1 y1
  rw [hn] at y1
  obtain ⟨x, hx⟩ : ∃ x, x = sec (mkG 3 0) (pc S11 0) := ⟨_, rfl⟩
  rw [show secs 3 S11 1 = [T x] by rw [hx]; rfl] at y1
  have z1 := size_ok (t := T1) (by omega)
  rw [show 4 + T1.wt = 11 by omega] at z1
  have r1 := read_ok [x] 3 11 (by decide) (Nat.le_of_ble_eq_true rfl)
  have r2 := read_ok [x] 4 11 (by decide) (Nat.le_of_ble_eq_true rfl)
  rw [show rd [x] 3 11 = ([([97], [120, 121])], 0) by rw [hx]; decide +kernel] at r1
  rw [show rd [x] 4 11 = ([], 4) by rw [hx]; decide +kernel] at r2
  rw [show treeO [([97], [120, 121])] = trA T1 by rw [hT1]; rfl] at r1
  have s1 := same_ok g1 g1 (by rw [l1]; decide) (by rw [l1]; decide)
  rw [decide_eq_true rfl] at s1
  have z0 := zwS (size_ok (t := .nil) (by decide))
  have k1 := sectors_ok 49 (by decide)
  clear hT1 hx hw hM
  exact awake15_walk T1 x p1 e1 d1 y1 z1 r1 r2 y2 s1 z0 k1
end Go.Proofs.YtbaedepmogkkeaaGreat.Av
namespace Go.Proofs.YtbaedepmogkkeaaGreat.Av
open Go Go.RowKit Go.ChangeShapes Go.WideShapes Tre
set_option linter.unusedVariables false
set_option linter.unusedSimpArgs false
set_option maxRecDepth 100000
set_option maxHeartbeats 4000000
/-- rows of ops -/
theorem rows_O {rows : List (List Value)} (h : ∀ r ∈ rows, CellsOk [.int .u8, .str, .str] r) : ∃ os : List OpP, os.length = rows.length ∧ rows.flatten.map .ex = opC os := by
  induction rows with
  | nil => exact ⟨[], rfl, rfl⟩
  | cons r rows ih =>
    obtain ⟨os, h1, h2⟩ := ih fun r hr => h r (by simp [hr])
    obtain ⟨v, q1, rfl, ⟨k, rfl, hk⟩, hq1⟩ := (h r (by simp)).cons_
    obtain ⟨v, q2, rfl, ⟨l, rfl, hl⟩, hq2⟩ := hq1.cons_
    obtain ⟨v, q3, rfl, ⟨m, rfl, hm⟩, hq3⟩ := hq2.cons_
    have := hq3.empty_
    subst this
    have hb := bounds_u8 hk
    refine ⟨(k.toNat, l, m) :: os, by simp [h1], ?_⟩
    rw [List.flatten_cons, List.map_append, h2]
    show [AV.ex (.int .u8 k), T l, T m] ++ opC os = [AV.ex (.int .u8 (k.toNat : Int)), T l, T m] ++ opC os
    rw [Int.toNat_of_nonneg hb.1]
theorem fin_none {x : Quill.Sc} {acc : List Pr} (h : (Shf.fin x acc).2 ≠ 0) : (Shf.fin x acc).1 = [] := by
  unfold Shf.fin at h ⊢
  split
  · rename_i e; rw [if_pos e] at h; exact absurd rfl h
  · rfl
theorem decR_none : ∀ (n : Nat) (x : Quill.Sc) (acc : List Pr), (Shf.decR n x acc).2 ≠ 0 → (Shf.decR n x acc).1 = []
  | 0, x, acc, h => fin_none h
  | n + 1, x, acc, h => by
    rw [Shf.decR_succ] at h ⊢
    by_cases h1 : x.bad ≠ 0
    · rw [if_pos h1] at h ⊢; exact fin_none h
    · rw [if_neg h1] at h ⊢
      by_cases h2 : x.row.2.bad = 0 ∧ Shf.late acc x.row.1 = true
      · rw [if_pos h2]
      · rw [if_neg h2] at h ⊢; exact decR_none n _ _ h
/-- the pairs of any bytes are not more than the bytes -/
theorem dec_srt (s : List UInt8) : Srt (Shf.dec s).1 ∧ bytesL (Shf.dec s).1 ≤ s.length ∧ 4 * (Shf.dec s).1.length ≤ s.length ∧ Shf.Short (Shf.dec s).1 := by
  by_cases h : (Shf.dec s).2 = 0
  · obtain ⟨L, hL⟩ : ∃ L, Shf.dec s = (L, 0) := ⟨(Shf.dec s).1, by rw [← h]⟩
    obtain ⟨e, h1, h2, h3⟩ := Shf.enc_dec hL
    rw [hL]
    show Srt L ∧ bytesL L ≤ s.length ∧ 4 * L.length ≤ s.length ∧ Shf.Short L
    have hl := Shf.encB_len L
    rw [e] at hl
    have := len_bytes L
    exact ⟨h2, by omega, by omega, h1⟩
  · have : (Shf.dec s).1 = [] := decR_none _ _ _ h
    rw [this]
    exact ⟨List.Pairwise.nil, Nat.zero_le _, Nat.zero_le _, fun x hx => by cases hx⟩
theorem treeO_or (l : List Pr) : treeO l = zTr ∨ treeO l = trA (ofL l) := by
  cases l with
  | nil => exact .inl rfl
  | cons a l => exact .inr rfl
end Go.Proofs.YtbaedepmogkkeaaGreat.Av
namespace Go.Proofs.YtbaedepmogkkeaaGreat.Av
open Go Go.RowKit Tre
set_option linter.unusedVariables false
set_option linter.unusedSimpArgs false
set_option maxRecDepth 100000
theorem sec_len (m : Nat) (q : List UInt8) (hq : q.length ≤ 48) : (sec m q).length = 64 := by
  simp only [sec, List.length_append, Quill.numB_length, List.length_replicate]; omega
theorem sec_take (m : Nat) (q : List UInt8) : (sec m q).take 8 = Quill.numB 8 m := by
  simp only [sec, List.append_assoc]
  rw [List.take_left' (Quill.numB_length 8 m)]
theorem sec_drop (m : Nat) (q : List UInt8) (hq : q.length ≤ 48) : (sec m q).drop 56 = Quill.numB 8 m := by
  simp only [sec]
  rw [List.drop_left' (by simp only [List.length_append, Quill.numB_length, List.length_replicate]; omega)]
theorem tell8 {m : Nat} (h : m < 18446744073709551616) : Quill.tell (Quill.numB 8 m) = m := by
  rw [Quill.tell_numB, Nat.mod_eq_of_lt (by omega)]
theorem hd_sec {m : Nat} (q : List UInt8) (h : m < 18446744073709551616) : hdM (sec m q) = m := by rw [hdM, sec_take, tell8 h]
theorem tl_sec {m : Nat} (q : List UInt8) (h : m < 18446744073709551616) (hq : q.length ≤ 48) : tlM (sec m q) = m := by rw [tlM, sec_drop m q hq, tell8 h]
/-- a payload with bytes of 0 behind -/
def padR (q : List UInt8) : List UInt8 := q ++ List.replicate (48 - q.length) 0
theorem sec_opn {m : Nat} {q : List UInt8} (hm : m ≠ 0) (hm2 : m < 18446744073709551616) (hq : q.length ≤ 48) : opn (sec m q) = (m, padR q, 0) := by
  have hl := sec_len m q hq
  have h1 := hd_sec q hm2
  have h2 := tl_sec q hm2 hq
  unfold opn
  rw [if_neg (by omega), if_neg (by omega), if_neg (by omega), h1]
  have e : ((sec m q).drop 8).take 48 = padR q := by
    simp only [sec, List.append_assoc]
    rw [List.drop_left' (Quill.numB_length 8 m), ← List.append_assoc, List.take_left' (by simp; omega)]
    rfl
  rw [e]
theorem pad_len {q : List UInt8} (h : q.length ≤ 48) : (padR q).length = 48 := by simp [padR]; omega
theorem pc48 (t : List UInt8) (i : Nat) : (pc t i).length ≤ 48 := by unfold pc; rw [List.length_take]; omega
theorem pad_first {q : List UInt8} {n : Nat} (h : n ≤ q.length) : (padR q).take n = q.take n := by
  unfold padR
  rw [List.take_append_of_le_length h]
/-- payloads of a text, with bytes of 0 behind the last one: the text's first bytes -/
theorem pads_flat (l : List UInt8) : ∀ k, (((List.range k).map fun i => padR (pc l i)).flatten).take (min (48 * k) l.length) = l.take (48 * k)
  | 0 => by simp
  | k + 1 => by
    have ih := pads_flat l k
    have hfl : ∀ k, (((List.range k).map fun i => padR (pc l i)).flatten).length = 48 * k := by
      intro k
      induction k with
      | zero => rfl
      | succ k ih2 =>
        rw [List.range_succ, List.map_append, List.flatten_append, List.length_append, ih2, List.map_singleton, List.flatten_singleton, pad_len (pc48 l k)]; omega
    rw [List.range_succ, List.map_append, List.flatten_append, List.map_singleton, List.flatten_singleton]
    by_cases h : 48 * k ≤ l.length
    · rw [List.take_append, hfl k, List.take_of_length_le (by rw [hfl k]; omega)]
      rw [show min (48 * k) l.length = 48 * k by omega, List.take_of_length_le (by rw [hfl k]; omega)] at ih
      rw [ih, show 48 * (k + 1) = 48 * k + 48 by omega, List.take_add]
      congr 1
      have hpl : (pc l k).length = min 48 (l.length - 48 * k) := by unfold pc; rw [List.length_take, List.length_drop]
      rw [pad_first (by omega), List.take_of_length_le (by omega)]
      rfl
    · rw [List.take_append_of_le_length (by rw [hfl k]; omega)]
      rw [show min (48 * (k + 1)) l.length = min (48 * k) l.length by omega, ih, List.take_of_length_le (by omega), List.take_of_length_le (by omega)]
def secsL (g : Nat) (t : List UInt8) (k : Nat) : List (List UInt8) := (List.range k).map fun i => sec (mkG g i) (pc t i)
theorem secs_T (g : Nat) (t : List UInt8) (k : Nat) : secs g t k = (secsL g t k).map T := by unfold secs secsL; rw [List.map_map]; rfl
theorem secsL_len (g : Nat) (t : List UInt8) (k : Nat) : (secsL g t k).length = k := by simp [secsL]
theorem secsL_at (g : Nat) (t : List UInt8) {k i : Nat} (h : i < (secsL g t k).length) : (secsL g t k)[i] = sec (mkG g i) (pc t i) := by simp [secsL]
theorem mkG_pos (g i : Nat) : mkG g i ≠ 0 := by unfold mkG; omega
theorem mkG_lt {g i : Nat} (hg : g ≤ 1099511627776) (hi : i < 1048575) : mkG g i < 18446744073709551616 := by unfold mkG; omega
theorem opn_secsL {g i : Nat} (t : List UInt8) (hg : g ≤ 1099511627776) (hi : i < 1048575) : opn (sec (mkG g i) (pc t i)) = (mkG g i, padR (pc t i), 0) := sec_opn (mkG_pos g i) (mkG_lt hg hi) (pc48 t i)
theorem cnt_len {t : List UInt8} : (cntP (t.length : Int)).toNat = npc t := by rw [cnt_npc, Int.toNat_natCast]
theorem pay_laid {g : Nat} (t : List UInt8) (hg : g ≤ 1099511627776) {k : Nat} (hk : k ≤ 1048575) : payC (secsL g t k) = (List.range k).map fun i => padR (pc t i) := by
  unfold payC secsL
  rw [List.map_map]
  refine List.map_congr_left fun i hi => ?_
  have := List.mem_range.1 hi
  show (opn (sec (mkG g i) (pc t i))).2.1 = _
  rw [opn_secsL t hg (by omega)]
theorem pads_len (l : List UInt8) : ∀ k, (((List.range k).map fun i => padR (pc l i)).flatten).length = 48 * k
  | 0 => rfl
  | k + 1 => by rw [List.range_succ, List.map_append, List.flatten_append, List.length_append, pads_len l k, List.map_singleton, List.flatten_singleton, pad_len (pc48 l k)]; omega
theorem rd_laid {g : Nat} {t : List UInt8} (s : List (List UInt8)) (hg : 1 ≤ g ∧ g ≤ 1099511627776) (hp : npc t < 1048575) : rd (secsL g t (npc t) ++ s) g t.length = Shf.dec t := by
  have hl := secsL_len g t (npc t)
  unfold rd
  rw [if_neg (fun h => h.elim (fun h => h hg) (by omega)), if_neg (by rw [cnt_npc, List.length_append, hl]; omega), cnt_len]
  rw [if_pos, List.take_left' hl, pay_laid t hg.2 (by omega)]
  · congr 1
    unfold glu
    have h48 : 48 * npc t ≥ t.length := by unfold npc; omega
    rw [if_neg (by omega), if_neg (by rw [pads_len]; omega), Int.toNat_natCast]
    have := pads_flat t (npc t)
    rw [show min (48 * npc t) t.length = t.length by omega] at this
    show (((List.range (npc t)).map fun i => padR (pc t i)).flatten).take t.length = t
    rw [this, List.take_of_length_le h48]
  · intro j h hj
    rw [List.getElem_append_left (by omega), secsL_at]
    unfold isS
    rw [opn_secsL t hg.2 (by omega)]
    exact ⟨rfl, rfl⟩
theorem rd_cut {g : Nat} {t : List UInt8} (hg : 1 ≤ g ∧ g ≤ 1099511627776) (L : List (List UInt8)) (hL : L.length < npc t) : rd L g t.length = ([], 3) := by
  unfold rd
  rw [if_neg (fun h => h.elim (fun h => h hg) (by omega)), if_pos (by rw [cnt_npc]; omega)]
theorem rd_other {g g2 : Nat} {t : List UInt8} (hg : 1 ≤ g ∧ g ≤ 1099511627776) (hg2 : 1 ≤ g2 ∧ g2 ≤ 1099511627776) (hne : g ≠ g2) (hp : npc t < 1048575) (h0 : 0 < npc t) : rd (secsL g t (npc t)) g2 t.length = ([], 4) := by
  have hl := secsL_len g t (npc t)
  unfold rd
  rw [if_neg (fun h => h.elim (fun h => h hg2) (by omega)), if_neg (by rw [cnt_npc, hl]; omega), cnt_len, if_neg]
  intro h
  have := h 0 (by omega) h0
  rw [secsL_at] at this
  unfold isS at this
  rw [opn_secsL t hg.2 (by omega)] at this
  have e : mkG g 0 = mkG g2 0 := this.2
  unfold mkG at e
  omega
end Go.Proofs.YtbaedepmogkkeaaGreat.Av
namespace Go.Proofs.YtbaedepmogkkeaaGreat.Av
open Go Go.RowKit Tre
set_option linter.unusedVariables false
set_option linter.unusedSimpArgs false
set_option maxRecDepth 100000
set_option maxHeartbeats 4000000
theorem rslay_full (L : List Pr) (hL : L.length ≤ 1000000) (hs : Shf.Short L) (g : Nat) (n : Int) (hn : n < npc (Shf.encB L)) (hl : (Shf.encB L).length ≤ 48000000) : SP 15 [.vs L.length (prC L), U g, Z n] (.tup [nilA, Z 7]) := by
  have c1 := renc_ok L hL hs
  have c2 := rcount_ok ((Shf.encB L).length : Int) (by omega)
  rw [cnt_npc] at c2
  have hz := bs_size (Shf.encB L)
  generalize Shf.encB L = x at *
  generalize npc x = N at *
  rw [← hz] at c2
  refine S_ Tryz.func15 (by kernel_rfl) rfl (Nat.le_of_ble_eq_true rfl) ?_
  show avc Tryz.prog SP _ _ _ _ _ _
  dsimp only [avc, startS, Array.toList, Tryz.f15]
  exact Av.W
theorem rslay_yes (L : List Pr) (hL : L.length ≤ 1000000) (hs : Shf.Short L) (g : Nat) (n : Int) (hn : (npc (Shf.encB L) : Int) ≤ n) (hl : (Shf.encB L).length ≤ 48000000) (hg : 1 ≤ g ∧ g ≤ 1099511627776) (hp : npc (Shf.encB L) < 1048575) :
    SP 15 [.vs L.length (prC L), U g, Z n] (.tup [.own 9 (npc (Shf.encB L)) (secs g (Shf.encB L) (npc (Shf.encB L))), Z 0]) := by
  have c1 := renc_ok L hL hs
  have c2 := rcount_ok ((Shf.encB L).length : Int) (by omega)
  rw [cnt_npc] at c2
  have c3 := rcut_yes (Shf.encB L) n (by omega) hn
  have hz := bs_size (Shf.encB L)
  generalize Shf.encB L = x at *
  obtain ⟨N, hN⟩ : ∃ N, N = npc x := ⟨_, rfl⟩
  rw [← hN] at hp c2 c3 hn ⊢
  rw [← hz] at c2
  refine S_ Tryz.func15 (by kernel_rfl) rfl (Nat.le_of_ble_eq_true rfl) ?_
  show avc Tryz.prog SP _ _ _ _ _ _
  dsimp only [avc, startS, Array.toList, Tryz.f15]
  refine Av.Wk ?_
  refine ⟨[13, 10, 12, 1], [(12, some 9)], fun vs bl => ∃ (i : Nat) (D : List AV), i ≤ N ∧ D = secs g x i ∧ (vs = [Z i, .sl 0 N, .sl 1 i, U g] ∧ bl = [⟨pcs x N, some 9, true, true⟩, ⟨D, some 9, false, true⟩]), muI N, ?_, ?_⟩
  · exact ⟨0, _, by omega, rfl, rfl, rfl⟩
  clear c1 c2 c3
  rintro vs bl ⟨i, D, hi, hD, rfl, rfl⟩
  have hl := secs_len g x i
  have hs1 : sizeT Tryz.prog 9 = 1 := by kernel_rfl
  by_cases hik : i < N
  · have hat : (pcs x N)[mulS (i : Int).toNat (sizeT Tryz.prog 9)]? = some (T (pc x i)) := by rw [hs1, mulS_eq, Nat.mul_one, Int.toNat_natCast]; simp [pcs, hik]
    have hMi := rmark_yes (g := g) (p := (i : Int)) ⟨hg.1, hg.2, by omega, by omega⟩
    rw [show (g : Int) * 1048576 + i + 1 = ((mkG g i : Nat) : Int) by unfold mkG; omega] at hMi
    have hSi := rseal_yes (mkG g i) (pc x i) (by unfold mkG; omega) (by unfold mkG; omega) (by unfold pc; rw [List.length_take]; omega)
    have hdl : D.length = i := by rw [hD, hl]
    have ap : room (i + 1) (bytesT Tryz.prog 9) ∧ D.length = i * sizeT Tryz.prog 9 ∧ ([T (sec (mkG g i) (pc x i))] : List AV).length = 1 * sizeT Tryz.prog 9 ∧ ∀ u ∈ ([T (sec (mkG g i) (pc x i))] : List AV), one1 u = true := ⟨room_sec (by omega), by rw [hs1, hdl, Nat.mul_one], by rw [hs1]; rfl, one_S _⟩
    have hst : D ++ [T (sec (mkG g i) (pc x i))] = secs g x (i + 1) := by rw [hD, secs_succ]
    have hdec : muI N [Z ((i : Int) + 1)] [] < muI N [Z i] [] := by show N - ((i : Int) + 1).toNat < N - (i : Int).toNat; omega
    generalize sec (mkG g i) (pc x i) = S at *
    generalize mkG g i = M at *
    generalize pc x i = P at *
    repeat' ((try conv => whnf) <;> first | refine Av.hm_ ?_ | refine Av.w1 ?_ | refine Av.w2 ?_ | refine Av.w3 ?_ | refine Av.w4 ?_ | refine Av.nle rfl ?_ | refine Av.q1 ?_ | refine Av.q2 ?_ | refine Av.q3 ?_ | refine Av.q4 ?_ | refine Av.inr_ (by omega) (by omega) ?_ | (refine ⟨_, hat, ?_⟩) | refine ⟨_, hMi, ?_⟩ | refine ⟨_, hSi, ?_⟩ | (refine ⟨false, ?_⟩) | (refine And.intro ap ?_) | exact True.intro | refine Av.eqt_ (by kernel_rfl) ?_ | refine ⟨rfl, ?_⟩ | refine ⟨⟨Nat.le_of_ble_eq_true rfl, rfl⟩, ?_⟩ | refine ⟨⟨rfl, rfl⟩, ?_⟩ | refine ⟨⟨rfl, rfl, rfl⟩, ?_⟩ | exact ⟨rfl, rfl, rfl⟩ | exact ⟨rfl, rfl⟩ | ((first | refine br_lt ?_ ?_ | refine br_lt_ ?_ ?_ | refine br_le ?_ ?_ | refine br_le_ ?_ ?_ | refine br_eq ?_ ?_ | refine br_eq_ ?_ ?_ | refine br_seq ?_ ?_ | refine br_seq_ ?_ ?_) <;> intro hBr <;> first | (exfalso; omega) | (exfalso; contradiction) | (exfalso; exact hBr rfl) | skip) | refine br_not ?_ | refine br_not_ ?_ | refine br_and ?_ | refine br_and_ ?_ | refine Av.asm_ (by omega) ?_ | refine ⟨_, wrap_i64 (by omega), ?_⟩ | refine ⟨_, wrap_u64 (by omega) (by omega), ?_⟩ | refine ⟨_, wrap_u8 (by omega) (by omega), ?_⟩ | refine ⟨_, wrap_u32 (by omega) (by omega), ?_⟩ | refine ⟨_, wrap_u16 (by omega) (by omega), ?_⟩ | refine ⟨_, rfl, ?_⟩ | exact rfl)
    exact ⟨⟨i + 1, _, by omega, hst, rfl, rfl⟩, hdec⟩
  · obtain rfl : i = N := by omega
    subst hD
    exact Av.W
theorem rslay_bad (L : List Pr) (hL : L.length ≤ 1000000) (hs : Shf.Short L) (g : Nat) (n : Int) (hn : (npc (Shf.encB L) : Int) ≤ n) (hl : (Shf.encB L).length ≤ 48000000) (hg : ¬ (1 ≤ g ∧ g ≤ 1099511627776)) :
    SP 15 [.vs L.length (prC L), U g, Z n] (.tup [nilA, Z 2]) := by
  have c1 := renc_ok L hL hs
  have c2 := rcount_ok ((Shf.encB L).length : Int) (by omega)
  rw [cnt_npc] at c2
  have c3 := rcut_yes (Shf.encB L) n (by omega) hn
  have hpos : 0 < npc (Shf.encB L) := by unfold npc Shf.encB; rw [List.length_append, Quill.numB_length]; omega
  have hz := bs_size (Shf.encB L)
  generalize Shf.encB L = x at *
  obtain ⟨N, hN⟩ : ∃ N, N = npc x := ⟨_, rfl⟩
  rw [← hN] at hpos c2 c3 hn
  rw [← hz] at c2
  refine S_ Tryz.func15 (by kernel_rfl) rfl (Nat.le_of_ble_eq_true rfl) ?_
  show avc Tryz.prog SP _ _ _ _ _ _
  dsimp only [avc, startS, Array.toList, Tryz.f15]
  refine Av.Wk ?_
  refine ⟨[13, 10, 12, 1], [(12, some 9)], fun vs bl => (vs = [Z 0, .sl 0 N, .sl 1 0, U g] ∧ bl = [⟨pcs x N, some 9, true, true⟩, ⟨[], some 9, false, true⟩]), muI N, ⟨rfl, rfl⟩, ?_⟩
  clear c1 c2 c3
  rintro vs bl ⟨rfl, rfl⟩
  have hs1 : sizeT Tryz.prog 9 = 1 := by kernel_rfl
  have hMi := rmark_no (g := g) (p := 0) (fun h => hg ⟨h.1, h.2.1⟩)
  exact Av.W
/-! ### Read -/
theorem rread_arg (L : List (List UInt8)) (g : Nat) (n : Int) (h : ¬ (1 ≤ g ∧ g ≤ 1099511627776) ∨ n < 0) : SP 17 [lsA L, U g, Z n] (.tup [.vs 0 [], Z 2]) := by
  have h : n < 0 ∨ ¬ n < 0 ∧ g < 1 ∨ ¬ n < 0 ∧ ¬ g < 1 ∧ 1099511627776 < g := by omega
  rcases h with h | ⟨h, h2⟩ | ⟨h, h2, h3⟩
  · refine S_ Tryz.func17 (by kernel_rfl) rfl (Nat.le_of_ble_eq_true rfl) ?_ -- G
    exact Av.W
  · refine S_ Tryz.func17 (by kernel_rfl) rfl (Nat.le_of_ble_eq_true rfl) ?_ -- G
    exact Av.W
  · refine S_ Tryz.func17 (by kernel_rfl) rfl (Nat.le_of_ble_eq_true rfl) ?_ -- G
    exact Av.W
theorem rread_few (L : List (List UInt8)) (g : Nat) (n : Int) (hg : 1 ≤ g ∧ g ≤ 1099511627776) (hn : 0 ≤ n) (hn2 : n ≤ 9223372036854775807) (hl : (L.length : Int) < cntP n) : SP 17 [lsA L, U g, Z n] (.tup [.vs 0 [], Z 3]) := by
  have c2 := rcount_ok n hn2
  obtain ⟨g1, g2⟩ := hg
  refine S_ Tryz.func17 (by kernel_rfl) rfl (Nat.le_of_ble_eq_true rfl) ?_
  show avc Tryz.prog SP _ _ _ _ _ _
  dsimp only [avc, startS, Array.toList, Tryz.f17]
  exact Av.W
def RQInv (L : List (List UInt8)) (g m : Nat) (n : Int) (vs : List AV) (bl : List ABlk) : Prop :=
  ∃ (i : Nat) (acc : List (List UInt8)) (D : List AV), i ≤ m ∧ acc = payC (L.take i) ∧ (∀ j (h : j < L.length), j < i → isS g j L[j]) ∧ D = acc.map T ∧
    (vs = [Z i, Z m, .vs L.length (L.map T), U g, Z n, .sl 0 i] ∧ bl = [⟨D, some 9, false, true⟩])
theorem rread_walk (L : List (List UInt8)) (g : Nat) (n : Int) (m : Nat) (R : AV) (E : Int) (hg : 1 ≤ g ∧ g ≤ 1099511627776) (hn : 0 ≤ n) (hn2 : n ≤ 9223372036854775807) (hm : cntP n = m) (hl : m ≤ L.length) (hL : m ≤ 1000000)
    (hbad : ∀ j (h : j < L.length), j < m → ¬ isS g j L[j] → R = .vs 0 [] ∧ E = 4)
    (hgood : (∀ j (h : j < L.length), j < m → isS g j L[j]) → ∃ t u k cs, SP 76 [.vs (payC (L.take m)).length ((payC (L.take m)).map T), Z n] (.tup [T t, Z u]) ∧ SP 77 [T t] (.tup [.vs k cs, Z E]) ∧ R = .vs k cs) :
    SP 17 [lsA L, U g, Z n] (.tup [R, Z E]) := by
  have c2 := rcount_ok n hn2
  rw [hm] at c2
  obtain ⟨g1, g2⟩ := hg
  have hs1 : sizeT Tryz.prog 9 = 1 := by kernel_rfl
  have e0 : RQInv L g m n [Z 0, Z m, .vs L.length (L.map T), U g, Z n, .sl 0 0] [⟨[], some 9, false, true⟩] := ⟨0, [], [], by omega, rfl, fun j _ h => absurd h (by omega), rfl, rfl, rfl⟩
  refine S_ Tryz.func17 (by kernel_rfl) rfl (Nat.le_of_ble_eq_true rfl) ?_
  show avc Tryz.prog SP _ _ _ _ _ _
  dsimp only [avc, startS, Array.toList, Tryz.f17]
  refine Av.Wk ?_
  refine ⟨[10, 8, 0, 1, 2, 9], [(9, some 9)], RQInv L g m n, muI m, e0, ?_⟩
  clear c2 e0
  rintro vs bl ⟨i, acc, D, hi, hacc, hgd, hD, rfl, rfl⟩
  have hDl : D.length = i * sizeT Tryz.prog 9 := by rw [hD, hs1, List.length_map, hacc]; unfold payC; rw [List.length_map, List.length_take]; omega
  by_cases hik : i < m
  · have hat : (L.map T)[mulS (i : Int).toNat (sizeT Tryz.prog 9) + 0]? = some (T (L[i]'(by omega))) := by
      rw [hs1, mulS_eq, Nat.mul_one, Int.toNat_natCast, Nat.add_zero, List.getElem?_map, List.getElem?_eq_getElem (by omega)]; rfl
    have hO := ropen_ok (L[i]'(by omega))
    have hM := rmark_yes (g := g) (p := (i : Int)) ⟨g1, g2, by omega, by omega⟩
    rw [show (g : Int) * 1048576 + i + 1 = ((mkG g i : Nat) : Int) by unfold mkG; omega] at hM
    have hdec : muI m [Z ((i : Int) + 1)] [] < muI m [Z i] [] := by show m - ((i : Int) + 1).toNat < m - (i : Int).toNat; omega
    by_cases hS : isS g i (L[i]'(by omega))
    · have ap : room (i + 1) (bytesT Tryz.prog 9) ∧ D.length = i * sizeT Tryz.prog 9 ∧ ([T (opn (L[i]'(by omega))).2.1] : List AV).length = 1 * sizeT Tryz.prog 9 ∧ ∀ u ∈ ([T (opn (L[i]'(by omega))).2.1] : List AV), one1 u = true := ⟨room_sec (by omega), hDl, by rw [hs1]; rfl, one_S _⟩
      have fin : RQInv L g m n [Z ((i : Int) + 1), Z m, .vs L.length (L.map T), U g, Z n, .sl 0 (i + 1)] [⟨D ++ [T (opn (L[i]'(by omega))).2.1], some 9, false, true⟩] :=
        ⟨i + 1, _, _, by omega, rfl, fun j h hj => by
          by_cases h1 : j < i
          · exact hgd j h h1
          · obtain rfl : j = i := by omega
            exact hS, by rw [hD, hacc, payC_succ (show i < L.length by omega), List.map_append]; rfl, rfl, rfl⟩
      obtain ⟨s1, s2⟩ := hS
      rw [s1, s2] at hO
      obtain ⟨M, hM2⟩ : ∃ M, M = mkG g i := ⟨_, rfl⟩
      rw [← hM2] at hM hO
      clear hM2 s1 s2
      obtain ⟨P, hP⟩ : ∃ P, P = (opn (L[i]'(by omega))).2.1 := ⟨_, rfl⟩
      rw [← hP] at hO ap fin
      clear hP
      clear hgd hgood hbad hD hacc hDl
      repeat' ((try conv => whnf) <;> first | refine Av.hm_ ?_ | refine Av.w1 ?_ | refine Av.w2 ?_ | refine Av.w3 ?_ | refine Av.w4 ?_ | refine Av.nle rfl ?_ | refine Av.q1 ?_ | refine Av.q2 ?_ | refine Av.q3 ?_ | refine Av.q4 ?_ | refine Av.inr_ (by omega) (by omega) ?_ | refine ⟨_, hM, ?_⟩ | (refine ⟨_, hat, ?_⟩) | refine ⟨_, hO, ?_⟩ | (refine ⟨false, ?_⟩) | (refine And.intro ap ?_) | exact True.intro | refine Av.eqt_ (by kernel_rfl) ?_ | refine ⟨rfl, ?_⟩ | refine ⟨⟨Nat.le_of_ble_eq_true rfl, rfl⟩, ?_⟩ | refine ⟨⟨rfl, rfl⟩, ?_⟩ | refine ⟨⟨rfl, rfl, rfl⟩, ?_⟩ | exact ⟨rfl, rfl, rfl⟩ | exact ⟨rfl, rfl⟩ | ((first | refine br_lt ?_ ?_ | refine br_lt_ ?_ ?_ | refine br_le ?_ ?_ | refine br_le_ ?_ ?_ | refine br_eq ?_ ?_ | refine br_eq_ ?_ ?_ | refine br_seq ?_ ?_ | refine br_seq_ ?_ ?_) <;> intro hBr <;> first | (exfalso; omega) | (exfalso; contradiction) | (exfalso; exact hBr rfl) | skip) | refine br_not ?_ | refine br_not_ ?_ | refine br_and ?_ | refine br_and_ ?_ | refine Av.asm_ (by omega) ?_ | refine ⟨_, wrap_i64 (by omega), ?_⟩ | refine ⟨_, wrap_u64 (by omega) (by omega), ?_⟩ | refine ⟨_, wrap_u8 (by omega) (by omega), ?_⟩ | refine ⟨_, wrap_u32 (by omega) (by omega), ?_⟩ | refine ⟨_, wrap_u16 (by omega) (by omega), ?_⟩ | refine ⟨_, rfl, ?_⟩ | exact rfl)
      exact hdec
    · obtain ⟨rfl, rfl⟩ := hbad i (by omega) hik hS
      have hne : (opn (L[i]'(by omega))).2.2 ≠ 0 ∨ (opn (L[i]'(by omega))).1 ≠ mkG g i := by unfold isS at hS; omega
      obtain ⟨a, b, c, ho⟩ : ∃ a b c, opn (L[i]'(by omega)) = (a, b, c) := ⟨_, _, _, rfl⟩
      rw [ho] at hO hne
      simp only at hO hne
      obtain ⟨M, hM2⟩ : ∃ M, M = mkG g i := ⟨_, rfl⟩
      rw [← hM2] at hM hne
      clear hM2
      have hda : c = 0 → (a : Int) ≠ (M : Int) := fun h h2 => by omega
      clear hne
      clear hgd hgood hbad hD hacc hDl hS ho
      by_cases hc : c = 0
      · subst hc
        have hda := hda rfl
        repeat' ((try conv => whnf) <;> first | refine Av.hm_ ?_ | refine Av.w1 ?_ | refine Av.w2 ?_ | refine Av.w3 ?_ | refine Av.w4 ?_ | refine Av.nle rfl ?_ | refine Av.q1 ?_ | refine Av.q2 ?_ | refine Av.q3 ?_ | refine Av.q4 ?_ | refine Av.inr_ (by omega) (by omega) ?_ | refine ⟨_, hM, ?_⟩ | (refine ⟨_, hat, ?_⟩) | refine ⟨_, hO, ?_⟩ | exact True.intro | refine Av.eqt_ (by kernel_rfl) ?_ | refine ⟨rfl, ?_⟩ | refine ⟨⟨Nat.le_of_ble_eq_true rfl, rfl⟩, ?_⟩ | refine ⟨⟨rfl, rfl⟩, ?_⟩ | refine ⟨⟨rfl, rfl, rfl⟩, ?_⟩ | exact ⟨rfl, rfl, rfl⟩ | exact ⟨rfl, rfl⟩ | ((first | refine br_lt ?_ ?_ | refine br_lt_ ?_ ?_ | refine br_le ?_ ?_ | refine br_le_ ?_ ?_ | refine br_eq ?_ ?_ | refine br_eq_ ?_ ?_ | refine br_seq ?_ ?_ | refine br_seq_ ?_ ?_) <;> intro hBr <;> first | (exfalso; omega) | (exfalso; contradiction) | (exfalso; exact hBr rfl) | skip) | refine br_not ?_ | refine br_not_ ?_ | refine br_and ?_ | refine br_and_ ?_ | refine Av.asm_ (by omega) ?_ | refine ⟨_, wrap_i64 (by omega), ?_⟩ | refine ⟨_, wrap_u64 (by omega) (by omega), ?_⟩ | refine ⟨_, wrap_u8 (by omega) (by omega), ?_⟩ | refine ⟨_, wrap_u32 (by omega) (by omega), ?_⟩ | refine ⟨_, wrap_u16 (by omega) (by omega), ?_⟩ | refine ⟨_, rfl, ?_⟩ | exact rfl)
      · clear hda
        repeat' ((try conv => whnf) <;> first | refine Av.hm_ ?_ | refine Av.w1 ?_ | refine Av.w2 ?_ | refine Av.w3 ?_ | refine Av.w4 ?_ | refine Av.nle rfl ?_ | refine Av.q1 ?_ | refine Av.q2 ?_ | refine Av.q3 ?_ | refine Av.q4 ?_ | refine Av.inr_ (by omega) (by omega) ?_ | refine ⟨_, hM, ?_⟩ | (refine ⟨_, hat, ?_⟩) | refine ⟨_, hO, ?_⟩ | exact True.intro | refine Av.eqt_ (by kernel_rfl) ?_ | refine ⟨rfl, ?_⟩ | refine ⟨⟨Nat.le_of_ble_eq_true rfl, rfl⟩, ?_⟩ | refine ⟨⟨rfl, rfl⟩, ?_⟩ | refine ⟨⟨rfl, rfl, rfl⟩, ?_⟩ | exact ⟨rfl, rfl, rfl⟩ | exact ⟨rfl, rfl⟩ | ((first | refine br_lt ?_ ?_ | refine br_lt_ ?_ ?_ | refine br_le ?_ ?_ | refine br_le_ ?_ ?_ | refine br_eq ?_ ?_ | refine br_eq_ ?_ ?_ | refine br_seq ?_ ?_ | refine br_seq_ ?_ ?_) <;> intro hBr <;> first | (exfalso; omega) | (exfalso; contradiction) | (exfalso; exact hBr rfl) | skip) | refine br_not ?_ | refine br_not_ ?_ | refine br_and ?_ | refine br_and_ ?_ | refine Av.asm_ (by omega) ?_ | refine ⟨_, wrap_i64 (by omega), ?_⟩ | refine ⟨_, wrap_u64 (by omega) (by omega), ?_⟩ | refine ⟨_, wrap_u8 (by omega) (by omega), ?_⟩ | refine ⟨_, wrap_u32 (by omega) (by omega), ?_⟩ | refine ⟨_, wrap_u16 (by omega) (by omega), ?_⟩ | refine ⟨_, rfl, ?_⟩ | exact rfl)
  · obtain rfl : i = m := by omega
    obtain ⟨t, u, k, cs, cg, cd, rfl⟩ := hgood fun j h hj => hgd j h hj
    have hal : acc.length = i := by rw [hacc]; unfold payC; rw [List.length_map, List.length_take]; omega
    rw [← hacc, ← hD, hal] at cg
    clear hgd hgood hbad hD hacc hDl
    repeat' ((try conv => whnf) <;> first | refine Av.hm_ ?_ | refine Av.w1 ?_ | refine Av.w2 ?_ | refine Av.w3 ?_ | refine Av.w4 ?_ | refine Av.nle rfl ?_ | refine Av.q1 ?_ | refine Av.q2 ?_ | refine Av.q3 ?_ | refine Av.q4 ?_ | refine Av.inr_ (by omega) (by omega) ?_ | refine ⟨_, cg, ?_⟩ | refine ⟨_, cd, ?_⟩ | exact True.intro | refine Av.eqt_ (by kernel_rfl) ?_ | refine ⟨rfl, ?_⟩ | refine ⟨⟨Nat.le_of_ble_eq_true rfl, rfl⟩, ?_⟩ | refine ⟨⟨rfl, rfl⟩, ?_⟩ | refine ⟨⟨rfl, rfl, rfl⟩, ?_⟩ | exact ⟨rfl, rfl, rfl⟩ | exact ⟨rfl, rfl⟩ | ((first | refine br_lt ?_ ?_ | refine br_lt_ ?_ ?_ | refine br_le ?_ ?_ | refine br_le_ ?_ ?_ | refine br_eq ?_ ?_ | refine br_eq_ ?_ ?_ | refine br_seq ?_ ?_ | refine br_seq_ ?_ ?_) <;> intro hBr <;> first | (exfalso; omega) | (exfalso; contradiction) | (exfalso; exact hBr rfl) | skip) | refine br_not ?_ | refine br_not_ ?_ | refine br_and ?_ | refine br_and_ ?_ | refine Av.asm_ (by omega) ?_ | refine ⟨_, wrap_i64 (by omega), ?_⟩ | refine ⟨_, wrap_u64 (by omega) (by omega), ?_⟩ | refine ⟨_, wrap_u8 (by omega) (by omega), ?_⟩ | refine ⟨_, wrap_u32 (by omega) (by omega), ?_⟩ | refine ⟨_, wrap_u16 (by omega) (by omega), ?_⟩ | refine ⟨_, rfl, ?_⟩ | exact rfl)
theorem rread_ok (L : List (List UInt8)) (g : Nat) (n : Int) (hn2 : n ≤ 9223372036854775807) (hL : L.length ≤ 1000000) : SP 17 [lsA L, U g, Z n] (.tup [.vs (rd L g n).1.length (prC (rd L g n).1), Z (rd L g n).2]) := by
  unfold rd
  by_cases hgn : ¬ (1 ≤ g ∧ g ≤ 1099511627776) ∨ n < 0
  · rw [if_pos hgn]; exact rread_arg L g n hgn
  · rw [if_neg hgn]
    have hg : 1 ≤ g ∧ g ≤ 1099511627776 := by omega
    have hn : 0 ≤ n := by omega
    by_cases hl : (L.length : Int) < cntP n
    · rw [if_pos hl]; exact rread_few L g n hg hn hn2 hl
    · rw [if_neg hl]
      have hc0 : 0 ≤ cntP n := by unfold cntP; split <;> omega
      obtain ⟨m, hm⟩ : ∃ m : Nat, cntP n = m := ⟨(cntP n).toNat, by omega⟩
      rw [hm, Int.toNat_natCast]
      have hl : m ≤ L.length := by omega
      have hpl : (payC (L.take m)).length ≤ 1000000 := by unfold payC; rw [List.length_map, List.length_take]; omega
      have hfl : (payC (L.take m)).flatten.length ≤ 48000000 := by
        have := payC_flat (L.take m)
        rw [List.length_take] at this
        omega
      have hgl := glu_len (payC (L.take m)) n
      by_cases hs : ∀ j (h : j < L.length), j < m → isS g j L[j]
      · rw [if_pos hs]
        exact rread_walk L g n m _ _ hg hn hn2 hm hl (by omega) (fun j h hj hb => absurd (hs j h hj) hb) fun _ => ⟨_, _, _, _, rglue_all _ n hpl (by omega), rdec_ok _ (by omega), rfl⟩
      · rw [if_neg hs]
        exact rread_walk L g n m _ _ hg hn hn2 hm hl (by omega) (fun j h hj hb => ⟨rfl, rfl⟩) fun h => absurd h hs
end Go.Proofs.YtbaedepmogkkeaaGreat.Av
namespace Go.Proofs.YtbaedepmogkkeaaGreat.Av
open Go Go.RowKit
set_option linter.unusedVariables false
set_option linter.unusedSimpArgs false
set_option maxRecDepth 100000

abbrev txs (l : List (List UInt8)) : AV := .vs l.length (l.map T)
/-- a list of texts, as it is told: the empty one may be nil -/
def IsT (a : AV) (l : List (List UInt8)) : Prop := a = txs l ∨ (a = nilA ∧ l = [])
theorem hs1 : sizeT Tryz.prog 9 = 1 := by kernel_rfl
theorem same_vv (la lb : List (List UInt8)) (h1 : la.length ≤ 9223372036854775806) (h2 : lb.length ≤ 9223372036854775807) : SP 18 [txs la, txs lb] (B (decide (la = lb))) := by
  by_cases hl : la.length = lb.length
  · refine S_ Tryz.func18 (by kernel_rfl) rfl (Nat.le_of_ble_eq_true rfl) ?_
    refine Av.Wk ?_
    refine ⟨[0, 1, 5], [], fun vs bs => ∃ i : Nat, i ≤ la.length ∧ la.take i = lb.take i ∧ vs = [txs la, txs lb, Z i] ∧ bs = [], fun vs bs => match vs with | [_, _, .ex (.int _ i)] => la.length - i.toNat | _ => 0, ?_, ?_⟩
    · exact ⟨0, by omega, by simp, rfl, rfl⟩
    rintro vs bs ⟨i, hi, ht, rfl, rfl⟩
    repeat' (first | (refine Hold.mk ?_) | (refine And.intro (fun _ => ?_) (fun h => Bool.noConfusion h)) | (refine And.intro (fun h => Bool.noConfusion h) (fun _ => ?_)) | (refine And.intro (Nat.le_of_ble_eq_true rfl) ?_))
    refine br_lt (fun h3 => ?_) (fun h3 => ?_)
    · have ha : i < la.length := by omega
      have hb : i < lb.length := by omega
      repeat' (first | (refine Hold.mk ?_) | (refine And.intro (fun _ => ?_) (fun h => Bool.noConfusion h)) | (refine And.intro (fun h => Bool.noConfusion h) (fun _ => ?_)) | (refine And.intro (Nat.le_of_ble_eq_true rfl) ?_))
      refine ⟨[], [0, 0, 3, 7, 0, 0, 48, 112, 255], by kernel_rfl, ?_⟩
      refine And.intro ⟨by omega, by omega⟩ ?_
      refine ⟨T la[i], by rw [mulS_eq, hs1]; simp [ha], ?_⟩
      refine And.intro ⟨by omega, by omega⟩ ?_
      refine ⟨T lb[i], by rw [mulS_eq, hs1]; simp [hb], ?_⟩
      repeat' (first | (refine Hold.mk ?_) | (refine And.intro (fun _ => ?_) (fun h => Bool.noConfusion h)) | (refine And.intro (fun h => Bool.noConfusion h) (fun _ => ?_)) | (refine And.intro (Nat.le_of_ble_eq_true rfl) ?_))
      refine br_not (br_seq_ (fun h4 => ?_) (fun h4 => ?_))
      · have hne : la ≠ lb := by intro e; subst e; exact h4 rfl
        rw [decide_eq_false hne]
        exact Av.W
      · repeat' (first | (refine Hold.mk ?_) | (refine And.intro (fun _ => ?_) (fun h => Bool.noConfusion h)) | (refine And.intro (fun h => Bool.noConfusion h) (fun _ => ?_)) | (refine And.intro (Nat.le_of_ble_eq_true rfl) ?_))
        refine And.intro (by omega) ?_
        repeat' (first | (refine Hold.mk ?_) | (refine And.intro (fun _ => ?_) (fun h => Bool.noConfusion h)) | (refine And.intro (fun h => Bool.noConfusion h) (fun _ => ?_)) | (refine And.intro (Nat.le_of_ble_eq_true rfl) ?_))
        refine ⟨⟨i + 1, by omega, ?_, rfl, rfl⟩, (by simp only [Int.toNat_natCast]; show la.length - ((i : Int) + 1).toNat < _; omega)⟩
        rw [List.take_succ_eq_append_getElem ha, List.take_succ_eq_append_getElem hb, ht, h4]
    · have he : la = lb := by
        have : i = la.length := by omega
        subst this
        rwa [List.take_length, hl, List.take_length] at ht
      rw [decide_eq_true he]
      exact Av.W
  · have hne : la ≠ lb := by intro e; exact hl (by rw [e])
    rw [decide_eq_false hne]
    refine S_ Tryz.func18 (by kernel_rfl) rfl (Nat.le_of_ble_eq_true rfl) ?_
    show avc Tryz.prog SP _ _ _ _ _ _
    dsimp only [avc, aops, startS, Array.toList, Tryz.f18]
    exact Av.W
theorem same_nv (lb : List (List UInt8)) (h2 : lb.length ≤ 9223372036854775807) : SP 18 [nilA, txs lb] (B (decide ([] = lb))) := by
  cases lb with
  | nil =>
    refine S_ Tryz.func18 (by kernel_rfl) rfl (Nat.le_of_ble_eq_true rfl) ?_
    show avc Tryz.prog SP _ _ _ _ _ _
    dsimp only [avc, aops, startS, Array.toList, Tryz.f18]
    refine Av.Wk ?_
    refine ⟨[5, 0], [], fun vs bs => vs = [Z 0, nilA] ∧ bs = [], fun vs bs => 0, ⟨rfl, rfl⟩, ?_⟩
    rintro vs bs ⟨rfl, rfl⟩
    exact Av.W
  | cons b lb =>
    have hlen : (b :: lb).length = lb.length + 1 := rfl
    refine S_ Tryz.func18 (by kernel_rfl) rfl (Nat.le_of_ble_eq_true rfl) ?_
    show avc Tryz.prog SP _ _ _ _ _ _
    dsimp only [avc, aops, startS, Array.toList, Tryz.f18]
    exact Av.W
theorem same_vn (la : List (List UInt8)) (h2 : la.length ≤ 9223372036854775807) : SP 18 [txs la, nilA] (B (decide (la = []))) := by
  cases la with
  | nil =>
    refine S_ Tryz.func18 (by kernel_rfl) rfl (Nat.le_of_ble_eq_true rfl) ?_
    show avc Tryz.prog SP _ _ _ _ _ _
    dsimp only [avc, aops, startS, Array.toList, Tryz.f18]
    refine Av.Wk ?_
    refine ⟨[5, 0], [], fun vs bs => vs = [Z 0, txs []] ∧ bs = [], fun vs bs => 0, ⟨rfl, rfl⟩, ?_⟩
    rintro vs bs ⟨rfl, rfl⟩
    exact Av.W
  | cons b lb =>
    have hlen : (b :: lb).length = lb.length + 1 := rfl
    refine S_ Tryz.func18 (by kernel_rfl) rfl (Nat.le_of_ble_eq_true rfl) ?_
    show avc Tryz.prog SP _ _ _ _ _ _
    dsimp only [avc, aops, startS, Array.toList, Tryz.f18]
    exact Av.W
theorem same_nn : SP 18 [nilA, nilA] (B true) := by
  refine S_ Tryz.func18 (by kernel_rfl) rfl (Nat.le_of_ble_eq_true rfl) ?_
  show avc Tryz.prog SP _ _ _ _ _ _
  dsimp only [avc, aops, startS, Array.toList, Tryz.f18]
  refine Av.Wk ?_
  refine ⟨[5, 0], [], fun vs bs => vs = [Z 0, nilA] ∧ bs = [], fun vs bs => 0, ⟨rfl, rfl⟩, ?_⟩
  rintro vs bs ⟨rfl, rfl⟩
  exact Av.W
theorem sametx_ok {a b : AV} {la lb : List (List UInt8)} (ha : IsT a la) (hb : IsT b lb) (h1 : la.length ≤ 9223372036854775806) (h2 : lb.length ≤ 9223372036854775806) : SP 18 [a, b] (B (decide (la = lb))) := by
  rcases ha with rfl | ⟨rfl, rfl⟩
  · rcases hb with rfl | ⟨rfl, rfl⟩
    · exact same_vv la lb h1 (by omega)
    · exact same_vn la (by omega)
  · rcases hb with rfl | ⟨rfl, rfl⟩
    · exact same_nv lb (by omega)
    · exact same_nn
end Go.Proofs.YtbaedepmogkkeaaGreat.Av
namespace Go.Proofs.YtbaedepmogkkeaaGreat.Av
open Go Go.RowKit
set_option linter.unusedVariables false
set_option linter.unusedSimpArgs false
set_option maxRecDepth 100000

def OverB (L : List (List UInt8)) : Prop := 40 < L.length ∨ ∃ l ∈ L, 200 < l.length
theorem over_loop (L : List (List UInt8)) (k : Int) (hn : L.length ≤ 40) (h1 : ∀ i (h : i < L.length), 200 < L[i].length → k = 1) (h0 : (∀ i (h : i < L.length), L[i].length ≤ 200) → k = 0) :
    SP 11 [.vs L.length (L.map T)] (Z k) := by
  have hs1 : sizeT Tryz.prog 9 = 1 := by kernel_rfl
  refine S_ Tryz.func11 (by kernel_rfl) rfl (Nat.le_of_ble_eq_true rfl) ?_
  show avc Tryz.prog SP _ _ _ _ _ _
  dsimp only [avc, startS, Array.toList, Tryz.f11]
  refine Av.Wk ?_
  refine ⟨[3, 0], [], fun vs bl => ∃ i : Nat, i ≤ L.length ∧ (∀ j (h : j < L.length), j < i → L[j].length ≤ 200) ∧ (vs = [Z i, .vs L.length (L.map T)] ∧ bl = []),
    fun vs bl => match vs with | [.ex (.int _ i), _] => L.length - i.toNat | _ => 0, ?_, ?_⟩
  · exact ⟨0, by omega, fun j h hj => by omega, rfl, rfl⟩
  rintro vs bl ⟨i, hi, hall, rfl, rfl⟩
  by_cases hlt : i < L.length
  · have hat : (L.map T)[mulS (i : Int).toNat (sizeT Tryz.prog 9)]? = some (T L[i]) := by rw [mulS_eq, hs1]; simp [hlt]
    have hsz : (bs L[i]).size = L[i].length := by simp [bs, ByteArray.size]
    by_cases hlong : 200 < L[i].length
    · have hk := h1 i hlt hlong
      subst hk
      generalize L[i] = q at hat hsz hlong
      exact Av.W
    · have hnext : ∀ j (h : j < L.length), j < i + 1 → L[j].length ≤ 200 := by
        intro j h hj
        by_cases e : j = i
        · subst e; omega
        · exact hall j h (by omega)
      generalize L[i] = q at hat hsz hlong
      refine Av.Wk ?_
      exact ⟨⟨i + 1, by omega, hnext, rfl, rfl⟩, (by simp only [Int.toNat_natCast]; show L.length - ((i : Int) + 1).toNat < _; omega)⟩
  · have hk := h0 fun j h => hall j h (by omega)
    subst hk
    exact Av.W
theorem over_many (L : List (List UInt8)) (hn : 40 < L.length) : SP 11 [.vs L.length (L.map T)] (Z 1) := by
  refine S_ Tryz.func11 (by kernel_rfl) rfl (Nat.le_of_ble_eq_true rfl) ?_
  show avc Tryz.prog SP _ _ _ _ _ _
  dsimp only [avc, startS, Array.toList, Tryz.f11]
  exact Av.W
theorem over_yes {L : List (List UInt8)} (h : OverB L) : SP 11 [.vs L.length (L.map T)] (Z 1) := by
  by_cases hn : 40 < L.length
  · exact over_many L hn
  · refine over_loop L 1 (by omega) (fun _ _ _ => rfl) fun hall => ?_
    rcases h with h | ⟨l, hl, h⟩
    · exact absurd h hn
    · obtain ⟨i, hi, rfl⟩ := List.getElem_of_mem hl
      have := hall i hi
      omega
theorem over_no {L : List (List UInt8)} (h : ¬ OverB L) : SP 11 [.vs L.length (L.map T)] (Z 0) := by
  have hn : ¬ 40 < L.length := fun hh => h (.inl hh)
  refine over_loop L 0 (by omega) (fun i hi hl => ?_) fun _ => rfl
  exact absurd (.inr ⟨L[i], List.getElem_mem _, hl⟩) h
end Go.Proofs.YtbaedepmogkkeaaGreat.Av
namespace Go.Proofs.YtbaedepmogkkeaaGreat.Av
open Go Go.RowKit Go.ChangeShapes Go.WideShapes Tre
set_option linter.unusedVariables false
set_option linter.unusedSimpArgs false
set_option maxRecDepth 100000
set_option maxHeartbeats 4000000
abbrev askS (g m z : Int) : AV := .ex (.agg #[.int .u64 g, .int .i64 m, .int .i64 z])
theorem shl_over1 (os : List OpP) (L : List (List UInt8)) (g m z : Int) (ho : SP 10 [.vs os.length (opC os)] (Z 1)) (ha : SP 12 [] (B true)) : SP 3 [.vs os.length (opC os), lsA L, askS g m z] (B true) := by
  refine S_ Tryz.func3 (by kernel_rfl) rfl (Nat.le_of_ble_eq_true rfl) ?_
  show avc Tryz.prog SP _ _ _ _ _ _
  dsimp only [avc, startS, Array.toList, Tryz.f3]
  exact Av.W
theorem shl_over2 (os : List OpP) (L : List (List UInt8)) (g m z : Int) (ho : SP 10 [.vs os.length (opC os)] (Z 0)) (ho2 : SP 11 [.vs L.length (L.map T)] (Z 1)) (ha : SP 12 [] (B true)) : SP 3 [.vs os.length (opC os), lsA L, askS g m z] (B true) := by
  refine S_ Tryz.func3 (by kernel_rfl) rfl (Nat.le_of_ble_eq_true rfl) ?_
  show avc Tryz.prog SP _ _ _ _ _ _
  dsimp only [avc, startS, Array.toList, Tryz.f3]
  exact Av.W
theorem shl_over3 (os : List OpP) (L : List (List UInt8)) (g m z : Int) (hm : 2000 < m) (ho : SP 10 [.vs os.length (opC os)] (Z 0)) (ho2 : SP 11 [.vs L.length (L.map T)] (Z 0)) (ha : SP 12 [] (B true)) : SP 3 [.vs os.length (opC os), lsA L, askS g m z] (B true) := by
  refine S_ Tryz.func3 (by kernel_rfl) rfl (Nat.le_of_ble_eq_true rfl) ?_
  show avc Tryz.prog SP _ _ _ _ _ _
  dsimp only [avc, startS, Array.toList, Tryz.f3]
  exact Av.W
section
variable (os : List OpP) (L : List (List UInt8)) (g : Nat) (m z : Int) (U1 V : Tr) (n1 k2 : Nat) (D C : List AV) (e i : Int) (tv : AV)
theorem shl_no (hm : ¬ 2000 < m) (htv : tv = zTr ∨ tv = trA V) (ho : SP 10 [.vs os.length (opC os)] (Z 0)) (ho2 : SP 11 [.vs L.length (L.map T)] (Z 0)) (ha : SP 12 [] (B true))
    (hmd : SP 13 [.vs os.length (opC os)] (.tup [trA U1, .vs n1 D])) (h1 : SP 14 [trA U1, U g, Z m] (.tup [nilA, Z e])) (h2 : SP 15 [.vs n1 D, U g, Z m] (.tup [nilA, Z e]))
    (h3 : SP 16 [lsA L, U g, Z z] (.tup [tv, Z i])) (h4 : SP 17 [lsA L, U g, Z z] (.tup [.vs k2 C, Z i])) (hs : SP 18 [nilA, nilA] (B true)) (h5 : SP 19 [tv, .vs k2 C] (B true)) :
    SP 3 [.vs os.length (opC os), lsA L, askS g m z] (B true) := by
  rcases htv with rfl | rfl
  · refine S_ Tryz.func3 (by kernel_rfl) rfl (Nat.le_of_ble_eq_true rfl) ?_ -- G
    exact Av.W
  · refine S_ Tryz.func3 (by kernel_rfl) rfl (Nat.le_of_ble_eq_true rfl) ?_ -- G
    exact Av.W
theorem shl_yes (k : Nat) (cs : List AV) (hm : ¬ 2000 < m) (htv : tv = zTr ∨ tv = trA V) (ho : SP 10 [.vs os.length (opC os)] (Z 0)) (ho2 : SP 11 [.vs L.length (L.map T)] (Z 0)) (ha : SP 12 [] (B true))
    (hmd : SP 13 [.vs os.length (opC os)] (.tup [trA U1, .vs n1 D])) (h1 : SP 14 [trA U1, U g, Z m] (.tup [.own 9 k cs, Z 0])) (h2 : SP 15 [.vs n1 D, U g, Z m] (.tup [.own 9 k cs, Z 0]))
    (h3 : SP 16 [lsA L, U g, Z z] (.tup [tv, Z i])) (h4 : SP 17 [lsA L, U g, Z z] (.tup [.vs k2 C, Z i])) (hs : SP 18 [.vs k cs, .vs k cs] (B true)) (h5 : SP 19 [tv, .vs k2 C] (B true)) :
    SP 3 [.vs os.length (opC os), lsA L, askS g m z] (B true) := by
  rcases htv with rfl | rfl
  · refine S_ Tryz.func3 (by kernel_rfl) rfl (Nat.le_of_ble_eq_true rfl) ?_ -- G
    exact Av.W
  · refine S_ Tryz.func3 (by kernel_rfl) rfl (Nat.le_of_ble_eq_true rfl) ?_ -- G
    exact Av.W
end
theorem decL_ok (s : List UInt8) (hs : s.length ≤ 1000000) : Srt (Shf.dec s).1 ∧ bytesL (Shf.dec s).1 ≤ 1000000 ∧ (Shf.dec s).1.length ≤ 250000 ∧ Shf.Short (Shf.dec s).1 := by
  obtain ⟨a, b, c, d⟩ := dec_srt s
  exact ⟨a, by omega, by omega, d⟩
theorem rd_srt (L : List (List UInt8)) (g : Nat) (n : Int) (hL : L.length ≤ 40) : Srt (rd L g n).1 ∧ bytesL (rd L g n).1 ≤ 1920 ∧ (rd L g n).1.length ≤ 480 ∧ Shf.Short (rd L g n).1 := by
  have h0 : Srt ([] : List Pr) ∧ bytesL ([] : List Pr) ≤ 1920 ∧ ([] : List Pr).length ≤ 480 ∧ Shf.Short [] := ⟨List.Pairwise.nil, Nat.zero_le _, Nat.zero_le _, fun x hx => by cases hx⟩
  unfold rd
  split
  · exact h0
  · split
    · exact h0
    · split
      · have h1 := payC_flat (L.take (cntP n).toNat)
        rw [List.length_take] at h1
        have h2 := glu_len (payC (L.take (cntP n).toNat)) n
        obtain ⟨a, b, c, d⟩ := dec_srt (glu (payC (L.take (cntP n).toNat)) n).1
        exact ⟨a, by omega, by omega, d⟩
      · exact h0
theorem shl_ok (os : List OpP) (hl : os.length ≤ 9223372036854775807) (L : List (List UInt8)) (hL : L.length ≤ 9223372036854775807) (hLs : ∀ s ∈ L, s.length ≤ 9223372036854775807) (g : Nat) (m z : Int) (hz : z ≤ 9223372036854775807) : SP 3 [.vs os.length (opC os), lsA L, askS g m z] (B true) := by
  by_cases h : Over13 os
  · exact shl_over1 os L g m z (over13_yes hl h) awake15_ok
  by_cases h' : OverB L
  · exact shl_over2 os L g m z (over13_no h) (over_yes h') awake15_ok
  by_cases h'' : 2000 < m
  · exact shl_over3 os L g m z h'' (over13_no h) (over_no h') awake15_ok
  have hL40 : L.length ≤ 40 := by
    apply Classical.byContradiction; intro e; exact h' (.inl (by omega))
  have md := made_of h
  generalize Tr.apply os .nil = U at md
  generalize applyL os [] = r at md
  have ml := md.len
  have mb := md.bytes
  have mM := md.map
  have hsh : Shf.Short r := by have := mM.key; rwa [md.list] at this
  have hel := Shf.encB_len r
  have hnp : npc (Shf.encB r) ≤ 1300 := by unfold npc; omega
  have hr := read_ok L g z hz (by omega)
  have hrr := rread_ok L g z hz (by omega)
  obtain ⟨d1, d2, d3, d4⟩ := rd_srt L g z hL40
  have hk := like_ok (t := ofL (rd L g z).1) (rd L g z).1 (ofL_good _).1 (by rw [ofL_toL d1]; omega) (by rw [ofL_toL d1]; intro x hx; have := (d4 x hx).1; omega) (by omega) (by omega)
  rw [decide_eq_true (ofL_toL d1)] at hk
  have hk2 := treeO_c hk
  clear hk
  have htv := treeO_or (rd L g z).1
  generalize treeO (rd L g z).1 = tv at *
  generalize ofL (rd L g z).1 = V at *
  generalize rd L g z = R at *
  by_cases hn : m < npc (Shf.encB r)
  · have h1 := lay_full mM g m (by rw [md.list]; exact hn) (by rw [md.list]; omega)
    have h2 := rslay_full r (by omega) hsh g m hn (by omega)
    exact shl_no os L g m z U V r.length R.1.length (prC r) (prC R.1) 7 R.2 tv h'' htv (over13_no h) (over_no h') awake15_ok md.made h1 h2 hr hrr same_nn hk2
  · by_cases hg : 1 ≤ g ∧ g ≤ 1099511627776
    · have h1 := lay_yes mM g m (by rw [md.list]; omega) (by rw [md.list]; omega) hg (by rw [md.list]; omega)
      rw [md.list] at h1
      have h2 := rslay_yes r (by omega) hsh g m (by omega) (by omega) hg (by omega)
      have hs := same_vv (secsL g (Shf.encB r) (npc (Shf.encB r))) (secsL g (Shf.encB r) (npc (Shf.encB r))) (by rw [secsL_len]; omega) (by rw [secsL_len]; omega)
      rw [decide_eq_true rfl] at hs
      have e9 : txs (secsL g (Shf.encB r) (npc (Shf.encB r))) = .vs (npc (Shf.encB r)) (secs g (Shf.encB r) (npc (Shf.encB r))) := by
        show AV.vs _ _ = AV.vs _ _
        rw [secsL_len, ← secs_T]
      rw [e9] at hs
      generalize secs g (Shf.encB r) (npc (Shf.encB r)) = cs at *
      generalize npc (Shf.encB r) = k at *
      exact shl_yes os L g m z U V r.length R.1.length (prC r) (prC R.1) R.2 tv k cs h'' htv (over13_no h) (over_no h') awake15_ok md.made h1 h2 hr hrr hs hk2
    · have h1 := lay_bad mM g m (by rw [md.list]; omega) (by rw [md.list]; omega) hg
      have h2 := rslay_bad r (by omega) hsh g m (by omega) (by omega) hg
      exact shl_no os L g m z U V r.length R.1.length (prC r) (prC R.1) 2 R.2 tv h'' htv (over13_no h) (over_no h') awake15_ok md.made h1 h2 hr hrr same_nn hk2
theorem askS_of {cs : Array Value} (h : CellsOk [.int .u64, .int .i64, .int .i64] cs.toList) : ∃ (g : Nat) (m z : Int), z ≤ 9223372036854775807 ∧ cs = #[.int .u64 (g : Int), .int .i64 m, .int .i64 z] := by
  obtain ⟨v0, r0, e0, ⟨k0, rfl, hk0⟩, hr0⟩ := h.cons_
  obtain ⟨v1, r1, e1, ⟨k1, rfl, hk1⟩, hr1⟩ := hr0.cons_
  obtain ⟨v2, r2, e2, ⟨k2, rfl, hk2⟩, hr2⟩ := hr1.cons_
  have e3 := hr2.empty_
  subst e3 e2 e1
  have b0 := bounds_u64 hk0
  have b2 := bounds_i64 hk2
  refine ⟨k0.toNat, k1, k2, by omega, ?_⟩
  rw [Int.toNat_of_nonneg b0.1]
  apply Array.ext'
  rw [e0]
theorem shelfLays_walk (rows : List (List Value)) (k : Nat) (F : Nat → Nat → Prop) (v : Value) (rows2 : List (List Value)) (k2 : Nat) (F2 : Nat → Nat → Prop) (v2 : Value) (cs : Array Value) (w : World) (hq : rows.length = k) (hz : k ≤ 9223372036854775807)
    (hok : ∀ r ∈ rows, CellsOk [.int .u8, .str, .str] r) (hlo : ∀ g j, F g j → g < w.heap.size) (hrep : ∀ F' : Nat → Nat → Prop, (∀ g j, F g j → F' g j) → Rep w p0 c0 F' noD (.vs k (rows.flatten.map .ex)) v)
    (hq2 : rows2.length = k2) (hz2 : k2 ≤ 9223372036854775807)
    (hok2 : ∀ r ∈ rows2, CellsOk [.str] r) (hlo2 : ∀ g j, F2 g j → g < w.heap.size) (hrep2 : ∀ F' : Nat → Nat → Prop, (∀ g j, F2 g j → F' g j) → Rep w p0 c0 F' noD (.vs k2 (rows2.flatten.map .ex)) v2) (hc : CellsOk [.int .u64, .int .i64, .int .i64] cs.toList) :
    Calls Tryz.prog 3 #[v, v2, .agg cs] w fun e w' => e = .returned (.bool true) ∧ Below w.heap.size w w' := by
  obtain ⟨os, e1, e2⟩ := rows_O hok
  obtain ⟨L, d1, d2, d3⟩ := rows_T hok2
  obtain ⟨g, m, z, h1, rfl⟩ := askS_of hc
  have hr := hrep (fun g j => F g j ∨ F2 g j) fun _ _ h => .inl h
  have hr2 := hrep2 (fun g j => F g j ∨ F2 g j) fun _ _ h => .inr h
  rw [e2, ← hq, ← e1] at hr
  rw [d2, ← hq2, ← d1] at hr2
  refine calls_at (avs := [.vs os.length (opC os), lsA L, askS g m z]) (shl_ok os (by omega) L (by omega) d3 g m z h1) w (fun g j => F g j ∨ F2 g j) (fun g j h => h.elim (hlo g j) (hlo2 g j)) _ rfl fun j hj => ?_
  match j, hj with
  | 0, _ => exact hr
  | 1, _ => exact hr2
  | 2, _ => exact .ex _ _
end Go.Proofs.YtbaedepmogkkeaaGreat.Av
