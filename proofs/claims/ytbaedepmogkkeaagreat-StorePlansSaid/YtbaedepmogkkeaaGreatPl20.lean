/- What the claim stands on, Pl20: contracts of functions and plain facts. No conditions. -/
import Derived.Test.YtbaedepmogkkeaaGreatPl19
import Derived.Test.YtbaedepmogkkeaaGreatPl17
namespace Go.Proofs.YtbaedepmogkkeaaGreat.Av
set_option maxHeartbeats 1000000
open Go Go.RowKit Tre
set_option linter.unusedVariables false
set_option linter.unusedSimpArgs false
set_option maxRecDepth 100000
def posL (k : Key) : List Pr → Nat
 | [] => 0
 | a :: l => if lt a.1 k = true then posL k l + 1 else 0
theorem posL_le (k : Key) : ∀ l : List Pr, posL k l ≤ l.length
 | [] => Nat.le_refl _
 | a :: l => by have := posL_le k l; unfold posL; split <;> simp <;> omega
theorem posL_lt (k : Key) : ∀ (l : List Pr) (i : Nat) (h : i < l.length), i < posL k l → lt (l[i]).1 k = true
 | a :: l, i, h, hp => by
  unfold posL at hp
  by_cases ha : lt a.1 k = true
  ·rw [if_pos ha] at hp
   cases i with
   | zero => exact ha
   | succ i => exact posL_lt k l i (by simpa using h) (by omega)
  ·rw [if_neg ha] at hp; omega
theorem posL_at (k : Key) : ∀ (l : List Pr) (h : posL k l < l.length), lt (l[posL k l]).1 k = false
 | a :: l, h => by
  generalize hq : posL k (a :: l) = q at h
  unfold posL at hq
  by_cases ha : lt a.1 k = true
  ·rw [if_pos ha] at hq
   subst hq
   exact posL_at k l (by simpa using h)
  ·rw [if_neg ha] at hq
   subst hq
   simpa using ha
theorem putL_take (k v : Key) (l : List Pr) : putL k v l = l.take (posL k l) ++ putL k v (l.drop (posL k l)) := by
 conv => lhs; rw [← List.take_append_drop (posL k l) l]
 refine putL_less _ fun a ha => ?_
 obtain ⟨i, hi, rfl⟩ := List.getElem_of_mem ha
 rw [List.length_take] at hi
 rw [List.getElem_take]
 exact posL_lt k l i (by omega) (by omega)
theorem putL_eq {k v : Key} {l : List Pr} (h : posL k l < l.length) (he : (l[posL k l]).1 = k) : putL k v l = l.take (posL k l) ++ (k, v) :: l.drop (posL k l + 1) := by
 rw [putL_take, List.drop_eq_getElem_cons h]
 congr 1
 generalize l[posL k l] = q at he
 obtain ⟨a, b⟩ := q
 simp only at he
 subst he
 exact putL_same
theorem putL_ne {k v : Key} {l : List Pr} (h : ∀ h : posL k l < l.length, (l[posL k l]).1 ≠ k) : putL k v l = l.take (posL k l) ++ (k, v) :: l.drop (posL k l) := by
 rw [putL_take]
 congr 1
 by_cases hp : posL k l < l.length
 ·rw [List.drop_eq_getElem_cons hp]
  have h1 := posL_at k l hp
  have h2 := h hp
  generalize l[posL k l] = q at h1 h2
  obtain ⟨a, b⟩ := q
  unfold putL
  rw [if_neg (by simp only at h1; rw [h1]; decide), if_neg h2]
 ·rw [List.drop_of_length_le (by omega)]; rfl
noncomputable abbrev tkA (l : List Pr) (p : Nat) : List AV := takeL (prC l) (mulS (0 : Int).toNat (sizeT Tryz.prog 212)) (mulS ((p : Int).toNat - (0 : Int).toNat) (sizeT Tryz.prog 212))
noncomputable abbrev dpA (l : List Pr) (n : Nat) (q : Int) : List AV := takeL (prC l) (mulS q.toNat (sizeT Tryz.prog 212)) (mulS ((n : Int).toNat - q.toNat) (sizeT Tryz.prog 212))
theorem dpA_eq (l : List Pr) (n : Nat) (q : Int) (i : Nat) (hq : q = (i : Int)) (hn : l.length = n) (hi : i ≤ n) : dpA l n q = prC (l.drop i) := by
 subst hq; exact prC_drop l i n hn hi
theorem pput_fin (l : List Pr) (k v : Key) (p n i : Nat) (q : Int) (R : List Pr) (hn : l.length = n) (hp : p ≤ n) (hq : q = (i : Int)) (hi : i ≤ n) (hR : R = l.take p ++ (k, v) :: l.drop i) :
  AV.vs (0 + ((p : Int).toNat - (0 : Int).toNat) + 1 + ((n : Int).toNat - q.toNat)) ([] ++ tkA l p ++ [T k, T v] ++ dpA l n q) = .vs R.length (prC R) := by
 rw [dpA_eq l n q i hq hn hi, show tkA l p = prC (l.take p) from prC_take l p, hR, hq]
 congr 1
 ·simp only [Int.toNat_natCast, Int.toNat_zero, List.length_append, List.length_cons, List.length_take, List.length_drop]; omega
 ·rw [prC_app]; simp [prC]
theorem pput_ok (l : List Pr) (k v : Key) (hl : l.length ≤ 1000000) : SP 115 [.vs l.length (prC l), T k, T v] (.vs (putL k v l).length (prC (putL k v l))) := by
 obtain ⟨R, hR⟩ : ∃ R, R = putL k v l := ⟨_, rfl⟩
 rw [← hR]
 obtain ⟨p, hp⟩ : ∃ p, p = posL k l := ⟨_, rfl⟩
 have hple := posL_le k l
 have hplt := posL_lt k l
 have hpat := posL_at k l
 have heq := putL_eq (k := k) (v := v) (l := l)
 have hne := putL_ne (k := k) (v := v) (l := l)
 rw [← hR] at heq hne
 simp only [← hp] at hple hplt hpat heq hne
 obtain ⟨n, hn⟩ : ∃ n, l.length = n := ⟨_, rfl⟩
 simp only [hn] at hple hplt hpat heq hne hl ⊢
 have hroom : n * sizeT Tryz.prog 212 ≤ (prC l).length := by rw [prC_len, hsP, hn]; omega
 have htk : tkA l p = prC (l.take p) := prC_take l p
 have hs := hsP
 have a1 : ([] : List AV).length = 0 * sizeT Tryz.prog 212 := by simp
 have b1 : (tkA l p).length = ((p : Int).toNat - (0 : Int).toNat) * sizeT Tryz.prog 212 ∧ ∀ u ∈ tkA l p, one1 u = true := by
  rw [htk]
  refine ⟨?_, one_pr _⟩
  rw [prC_len, hs, List.length_take, hn]; simp; omega
 have a2 : ([] ++ tkA l p).length = (0 + ((p : Int).toNat - (0 : Int).toNat)) * sizeT Tryz.prog 212 := by rw [List.nil_append, b1.1, Nat.zero_add]
 have b2 := pre2 k v
 have a3 : ([] ++ tkA l p ++ [T k, T v]).length = (0 + ((p : Int).toNat - (0 : Int).toNat) + 1) * sizeT Tryz.prog 212 := by rw [List.length_append, a2, Nat.add_mul (0 + _) 1, b2.1]
 have b3 : ∀ (q : Int) (i : Nat), q = (i : Int) → i ≤ n → (dpA l n q).length = ((n : Int).toNat - q.toNat) * sizeT Tryz.prog 212 ∧ ∀ u ∈ dpA l n q, one1 u = true := by
  intro q i hq hi
  rw [dpA_eq l n q i hq hn hi, hq]
  refine ⟨?_, one_pr _⟩
  rw [prC_len, hs, List.length_drop, hn]; simp
 refine S_ Tryz.func115 (by kernel_rfl) rfl (Nat.le_of_ble_eq_true rfl) ?_
 show avc Tryz.prog SP _ _ _ _ _ _
 dsimp only [avc, startS, Array.toList, Tryz.f115]
 refine Av.Wk ?_
 refine ⟨[7, 0, 1, 2], [], fun vs bl => ∃ i : Nat, i ≤ p ∧ (vs = [Z i, .vs n (prC l), T k, T v] ∧ bl = []), muI n, ?_, ?_⟩
 ·exact ⟨0, by omega, rfl, rfl⟩
 rintro vs bl ⟨i, hi, rfl, rfl⟩
 by_cases hip : i < p
 ·have hin : i < l.length := by omega
  have h1 := prK hin
  have hb : ltB (l[i]).1 k = true := by rw [ltB_eq]; exact hplt i (by omega) hip
  have hdec := mu_I (n := n) (i := i) (by omega)
  clear hR heq hne hplt hpat
  refine Av.Wk ?_
  exact ⟨⟨i + 1, by omega, rfl, rfl⟩, hdec _ _ _ _⟩
 ·obtain rfl : i = p := by omega
  by_cases hpn : i < n
  ·have hin : i < l.length := by omega
   have h1 := prK hin
   have hb : ltB (l[i]).1 k = false := by rw [ltB_eq]; exact hpat hpn
   have he2 := eqT_ (l[i]).1 k
   by_cases he : (l[i]).1 = k
   ·rw [decide_eq_true he] at he2
    have hf := pput_fin l k v i n (i + 1) ((i : Int) + 1) R hn hple rfl (by omega) (heq hpn he)
    have b4 := b3 ((i : Int) + 1) (i + 1) rfl (by omega)
    clear hR heq hne hplt hpat b3
    repeat' ((try conv => whnf) <;> first | refine Av.Va ?_ | (refine ⟨_, h1, ?_⟩) | (refine br_f hb ?_) | (refine br_t he2 ?_) | (refine ⟨false, ?_⟩) | (refine And.intro ⟨by omega, by omega, by omega, hroom⟩ ?_) | (refine And.intro ⟨room_p (by omega), a1, b1⟩ ?_) | (refine And.intro ⟨room_p (by omega), a2, b2⟩ ?_) | (refine And.intro ⟨room_p (by omega), a3, b4⟩ ?_) | exact True.intro | refine Av.Vb ?_ | exact ⟨rfl, rfl, rfl⟩ | exact ⟨rfl, rfl⟩ | (refine Av.Vc ?_ ?_ <;> intro hBr <;> first | (exfalso; omega) | (exfalso; contradiction) | (exfalso; exact hBr rfl) | skip) | refine Av.Vd ?_ | exact rfl)
    exact hf
   ·rw [decide_eq_false he] at he2
    have hf := pput_fin l k v i n i (i : Int) R hn hple rfl (by omega) (hne fun _ => he)
    have b4 := b3 (i : Int) i rfl (by omega)
    clear hR heq hne hplt hpat b3
    repeat' ((try conv => whnf) <;> first | refine Av.Va ?_ | (refine ⟨_, h1, ?_⟩) | (refine br_f hb ?_) | (refine br_f he2 ?_) | (refine ⟨false, ?_⟩) | (refine And.intro ⟨by omega, by omega, by omega, hroom⟩ ?_) | (refine And.intro ⟨room_p (by omega), a1, b1⟩ ?_) | (refine And.intro ⟨room_p (by omega), a2, b2⟩ ?_) | (refine And.intro ⟨room_p (by omega), a3, b4⟩ ?_) | exact True.intro | refine Av.Vb ?_ | exact ⟨rfl, rfl, rfl⟩ | exact ⟨rfl, rfl⟩ | (refine Av.Vc ?_ ?_ <;> intro hBr <;> first | (exfalso; omega) | (exfalso; contradiction) | (exfalso; exact hBr rfl) | skip) | refine Av.Vd ?_ | exact rfl)
    exact hf
  ·have hf := pput_fin l k v i n i (i : Int) R hn hple rfl (by omega) (hne fun h => absurd h hpn)
   have b4 := b3 (i : Int) i rfl (by omega)
   clear hR heq hne hplt hpat b3
   repeat' ((try conv => whnf) <;> first | refine Av.Va ?_ | (refine ⟨false, ?_⟩) | (refine And.intro ⟨by omega, by omega, by omega, hroom⟩ ?_) | (refine And.intro ⟨room_p (by omega), a1, b1⟩ ?_) | (refine And.intro ⟨room_p (by omega), a2, b2⟩ ?_) | (refine And.intro ⟨room_p (by omega), a3, b4⟩ ?_) | exact True.intro | refine Av.Vb ?_ | exact ⟨rfl, rfl, rfl⟩ | exact ⟨rfl, rfl⟩ | (refine Av.Vc ?_ ?_ <;> intro hBr <;> first | (exfalso; omega) | (exfalso; contradiction) | (exfalso; exact hBr rfl) | skip) | refine Av.Vd ?_ | exact rfl)
   exact hf
theorem mem_putL {k v : Key} : ∀ {l : List Pr} {x : Pr}, x ∈ putL k v l → x = (k, v) ∨ x ∈ l
 | [], x, hx => by simp [putL] at hx; exact .inl hx
 | (c, d) :: l, x, hx => by
  unfold putL at hx
  split at hx
  ·rcases List.mem_cons.1 hx with rfl | hx
   ·right; simp
   ·rcases mem_putL hx with h | h
    ·exact .inl h
    ·exact .inr (List.mem_cons_of_mem _ h)
  ·split at hx
   ·rcases List.mem_cons.1 hx with rfl | hx
    ·exact .inl rfl
    ·exact .inr (List.mem_cons_of_mem _ hx)
   ·rcases List.mem_cons.1 hx with rfl | hx
    ·exact .inl rfl
    ·exact .inr hx
theorem hsRt : sizeT Tryz.prog 124 = 3 := by kernel_rfl
theorem opR0 {os : List OpP} {i : Nat} (h : i < os.length) : (opC os)[mulS (i : Int).toNat (sizeT Tryz.prog 124) + 0]? = some (.ex (.int .u8 (os[i]).1)) := by
 rw [hsRt, mulS_eq, Int.toNat_natCast]; exact opC_at h 0 _ rfl
theorem opR1 {os : List OpP} {i : Nat} (h : i < os.length) : (opC os)[mulS (i : Int).toNat (sizeT Tryz.prog 124) + 1]? = some (T (os[i]).2.1) := by
 rw [hsRt, mulS_eq, Int.toNat_natCast]; exact opC_at h 1 _ rfl
theorem opR2 {os : List OpP} {i : Nat} (h : i < os.length) : (opC os)[mulS (i : Int).toNat (sizeT Tryz.prog 124) + 2]? = some (T (os[i]).2.2) := by
 rw [hsRt, mulS_eq, Int.toNat_natCast]; exact opC_at h 2 _ rfl
theorem opRW {os : List OpP} {i : Nat} (h : i < os.length) : ([.ex (.int .u8 (os[i]).1), T (os[i]).2.1, T (os[i]).2.2] : List AV).length = sizeT Tryz.prog 124 ∧ ∀ j v, ([.ex (.int .u8 (os[i]).1), T (os[i]).2.1, T (os[i]).2.2] : List AV)[j]? = some v → (opC os)[mulS (i : Int).toNat (sizeT Tryz.prog 124) + j]? = some v := by
 rw [hsRt, mulS_eq, Int.toNat_natCast]
 exact ⟨rfl, opC_at h⟩
def PrsN (n : Nat) (l : List Pr) : Prop := l.length + n ≤ 1000000 ∧ ∀ p ∈ l, p.1.length ≤ 1000000000 ∧ p.2.length ≤ 1000000000
theorem PrsN.ok {n : Nat} {l : List Pr} (h : PrsN n l) : PrsOk l := ⟨by have := h.1; omega, h.2⟩
theorem PrsN.step {n : Nat} {l : List Pr} (h : PrsN (n + 1) l) (o : OpP) (hk : o.2.1.length ≤ 1000000000) (hv : o.2.2.length ≤ 1000000000) : PrsN n (stepL o l) := by
 have hs := stepL_len o l
 have h1 := h.1
 refine ⟨by omega, fun p hp => ?_⟩
 unfold stepL at hp
 split at hp
 ·rcases mem_putL hp with rfl | hp
  ·exact ⟨hk, hv⟩
  ·exact h.2 p hp
 ·split at hp
  ·exact h.2 p (List.mem_filter.1 hp).1
  ·split at hp
   ·exact h.2 p (List.mem_filter.1 hp).1
   ·exact h.2 p hp
theorem applyL_drop (os : List OpP) (i : Nat) (h : i < os.length) (l : List Pr) : applyL (os.drop i) l = applyL (os.drop (i + 1)) (stepL os[i] l) := by
 rw [List.drop_eq_getElem_cons h]; rfl
theorem papply_ok (l : List Pr) (os : List OpP) (hl : PrsN os.length l) (ho : ∀ o ∈ os, o.2.1.length ≤ 1000000000 ∧ o.2.2.length ≤ 1000000000) (res : List Pr) (hres : applyL os l = res) :
  SP 49 [.vs l.length (prC l), .vs os.length (opC os)] (.vs res.length (prC res)) := by
 have hn := hl.1
 refine S_ Tryz.func49 (by kernel_rfl) rfl (Nat.le_of_ble_eq_true rfl) ?_
 show avc Tryz.prog SP _ _ _ _ _ _
 dsimp only [avc, startS, Array.toList, Tryz.f49]
 have hW0 : Av.Mk 13 [0,0,0,6,14,30,0,0,192,448,960,2047,4095] := ⟨⟩
 refine Av.Wk ?_
 refine ⟨[5, 0, 1], [], fun vs bl => ∃ (i : Nat) (s : List Pr), i ≤ os.length ∧ PrsN (os.length - i) s ∧ applyL (os.drop i) s = res ∧ (vs = [Z i, .vs s.length (prC s), .vs os.length (opC os)] ∧ bl = []), muI os.length, ?_, ?_⟩
 ·exact ⟨0, l, by omega, hl, by rw [List.drop_zero]; exact hres, rfl, rfl⟩
 rintro vs bl ⟨i, s, hi, hs, hr, rfl, rfl⟩
 by_cases hlt : i < os.length
 ·have h0 := opR0 hlt
  have h1 := opR1 hlt
  have h2 := opR2 hlt
  have hz := ho _ (List.getElem_mem hlt)
  have hs2 : PrsN (os.length - (i + 1)) (stepL os[i] s) := PrsN.step (by rw [show os.length - (i + 1) + 1 = os.length - i by omega]; exact hs) _ hz.1 hz.2
  rw [applyL_drop os i hlt s] at hr
  have hdec := mu_I hlt
  have hsl := hs.1
  clear hres ho hl
  generalize os[i] = o at h0 h1 h2 hs2 hr hz
  by_cases k1 : o.1 = 1
  ·have e : stepL o s = putL o.2.1 o.2.2 s := if_pos k1
   rw [e] at hr hs2
   have c := pput_ok s o.2.1 o.2.2 hs.ok.1
   rw [k1] at h0
   have hW1 : Av.Mk 13 [0,0,0,6,14,30,0,0,192,448,960,2047,4095] := ⟨⟩
   refine Av.Wk ?_
   exact ⟨⟨i + 1, _, by omega, hs2, hr, rfl, rfl⟩, hdec _ _ _ _⟩
  ·by_cases k2 : o.1 = 2
   ·have e : stepL o s = delL o.2.1 s := (if_neg k1).trans (if_pos k2)
    rw [e] at hr hs2
    have c := pdel_ok s o.2.1 hs.ok
    rw [k2] at h0
    have hW2 : Av.Mk 13 [0,0,0,6,14,30,0,0,192,448,960,2047,4095] := ⟨⟩
    refine Av.Wk ?_
    exact ⟨⟨i + 1, _, by omega, hs2, hr, rfl, rfl⟩, hdec _ _ _ _⟩
   ·by_cases k3 : o.1 = 3
    ·have e : stepL o s = dropL o.2.1 s := (if_neg k1).trans ((if_neg k2).trans (if_pos k3))
     rw [e] at hr hs2
     have c := pdrop_ok s o.2.1 hs.ok (by omega)
     rw [k3] at h0
     have hW3 : Av.Mk 13 [0,0,0,6,14,30,0,0,192,448,960,2047,4095] := ⟨⟩
     refine Av.Wk ?_
     exact ⟨⟨i + 1, _, by omega, hs2, hr, rfl, rfl⟩, hdec _ _ _ _⟩
    ·have e : stepL o s = s := (if_neg k1).trans ((if_neg k2).trans (if_neg k3))
     rw [e] at hr hs2
     have hW4 : Av.Mk 13 [0,0,0,6,14,30,0,0,192,448,960,2047,4095] := ⟨⟩
     refine Av.Wk ?_
     exact ⟨⟨i + 1, _, by omega, hs2, hr, rfl, rfl⟩, hdec _ _ _ _⟩
 ·obtain rfl : i = os.length := by omega
  rw [List.drop_length] at hr
  have : res = s := hr.symm
  subst this
  clear hres hr
  have hW5 : Av.Mk 13 [0,0,0,6,14,30,0,0,192,448,960,2047,4095] := ⟨⟩
  exact Av.W
/-! ### ops -/
def Over13 (os : List OpP) : Prop := 50 < os.length ∨ ∃ o ∈ os, 150 < o.2.1.length ∨ 1000 < o.2.2.length
theorem over13_no {os : List OpP} (h : ¬ Over13 os) : SP 10 [.vs os.length (opC os)] (Z 0) := by
 have hn : os.length ≤ 50 := by apply Classical.byContradiction; intro e; exact h (.inl (by omega))
 refine S_ Tryz.func10 (by kernel_rfl) rfl (Nat.le_of_ble_eq_true rfl) ?_
 show avc Tryz.prog SP _ _ _ _ _ _
 dsimp only [avc, startS, Array.toList, Tryz.f10]
 refine Av.Wk ?_
 refine ⟨[3, 0], [], fun vs bl => ∃ i : Nat, i ≤ os.length ∧ (vs = [Z i, .vs os.length (opC os)] ∧ bl = []), muI os.length, ?_, ?_⟩
 ·exact ⟨0, by omega, rfl, rfl⟩
 rintro vs bl ⟨i, hi, rfl, rfl⟩
 by_cases hlt : i < os.length
 ·have h1 := opR1 hlt
  have h2 := opR2 hlt
  have hdec := mu_I hlt
  have hz : (bs (os[i]).2.1).size ≤ 150 ∧ (bs (os[i]).2.2).size ≤ 1000 := by
   rw [bs_size, bs_size]
   apply Classical.byContradiction
   intro e
   exact h (.inr ⟨_, List.getElem_mem hlt, by omega⟩)
  clear h
  refine Av.Wk ?_
  exact ⟨⟨i + 1, by omega, rfl, rfl⟩, hdec _ _ _ _⟩
 ·obtain rfl : i = os.length := by omega
  clear h
  exact Av.W
theorem over13_yes {os : List OpP} (hl : os.length ≤ 9223372036854775807) (h : Over13 os) : SP 10 [.vs os.length (opC os)] (Z 1) := by
 by_cases hn : 50 < os.length
 ·refine S_ Tryz.func10 (by kernel_rfl) rfl (Nat.le_of_ble_eq_true rfl) ?_ -- G
  exact Av.W
 ·have hex : ∃ i, ∃ h : i < os.length, 150 < (os[i]).2.1.length ∨ 1000 < (os[i]).2.2.length := by
   rcases h with h | ⟨o, ho, h⟩
   ·exact absurd h hn
   ·obtain ⟨i, hi, rfl⟩ := List.getElem_of_mem ho
    exact ⟨i, hi, h⟩
  obtain ⟨k, hk, hb⟩ := hex
  have hb2 : 150 < (bs (os[k]).2.1).size ∨ 1000 < (bs (os[k]).2.2).size := by rw [bs_size, bs_size]; exact hb
  clear h hb
  refine S_ Tryz.func10 (by kernel_rfl) rfl (Nat.le_of_ble_eq_true rfl) ?_
  show avc Tryz.prog SP _ _ _ _ _ _
  dsimp only [avc, startS, Array.toList, Tryz.f10]
  refine Av.Wk ?_
  refine ⟨[3, 0], [], fun vs bl => ∃ i : Nat, i ≤ k ∧ (vs = [Z i, .vs os.length (opC os)] ∧ bl = []), muI os.length, ?_, ?_⟩
  ·exact ⟨0, by omega, rfl, rfl⟩
  rintro vs bl ⟨i, hi, rfl, rfl⟩
  have hlt : i < os.length := by omega
  have h1 := opR1 hlt
  have h2 := opR2 hlt
  have hdec := mu_I hlt
  by_cases hik : i < k
  ·by_cases hz : 150 < (bs (os[i]).2.1).size
   ·exact Av.W
   ·by_cases hz2 : 1000 < (bs (os[i]).2.2).size
    ·exact Av.W
    ·refine Av.Wk ?_
     exact ⟨⟨i + 1, by omega, rfl, rfl⟩, hdec _ _ _ _⟩
  ·obtain rfl : i = k := by omega
   exact Av.W
theorem one_op (os : List OpP) : ∀ v ∈ opC os, one1 v = true := by
 intro v hv
 obtain ⟨p, _, hp⟩ := List.mem_flatMap.1 hv
 simp only [List.mem_cons, List.not_mem_nil, or_false] at hp
 rcases hp with rfl | rfl | rfl <;> rfl
theorem room_o {k : Nat} (hk : k ≤ 1000000000000) : room k (bytesT Tryz.prog 82) := by
 rw [show bytesT Tryz.prog 82 = 40 by kernel_rfl]; unfold room; omega
theorem opC_app (a b : List OpP) : opC (a ++ b) = opC a ++ opC b := by simp [opC]
theorem own13_ok (os : List OpP) (hn : os.length ≤ 1000000) : SP 44 [.vs os.length (opC os)] (.vs os.length (opC os)) := by
 refine S_ Tryz.func44 (by kernel_rfl) rfl (Nat.le_of_ble_eq_true rfl) ?_
 show avc Tryz.prog SP _ _ _ _ _ _
 dsimp only [avc, startS, Array.toList, Tryz.f44]
 refine Av.Wk ?_
 refine ⟨[4, 3, 0], [(3, some 82)], fun vs bl => ∃ (i : Nat) (D : List AV), i ≤ os.length ∧ D = opC (os.take i) ∧ (vs = [Z i, .sl 0 i, .vs os.length (opC os)] ∧ bl = [⟨D, some 82, false, true⟩]), muI os.length, ?_, ?_⟩
 ·exact ⟨0, [], by omega, rfl, rfl, rfl⟩
 rintro vs bl ⟨i, D, hi, hD, rfl, rfl⟩
 have hDl : D.length = i * sizeT Tryz.prog 82 := by rw [hD, opC_len, hsO, List.length_take]; omega
 by_cases hlt : i < os.length
 ·have h1 := opRW hlt
  have hdec := mu_I hlt
  have b2 : ([.ex (.int .u8 (os[i]).1), T (os[i]).2.1, T (os[i]).2.2] : List AV).length = 1 * sizeT Tryz.prog 82 ∧ ∀ v ∈ ([.ex (.int .u8 (os[i]).1), T (os[i]).2.1, T (os[i]).2.2] : List AV), one1 v = true := by
   rw [hsO]; exact ⟨rfl, one_op [os[i]]⟩
  have hs : D ++ [.ex (.int .u8 (os[i]).1), T (os[i]).2.1, T (os[i]).2.2] = opC (os.take (i + 1)) := by
   rw [List.take_add_one, List.getElem?_eq_getElem hlt, opC_app, hD]; rfl
  repeat' ((try conv => whnf) <;> first | refine Av.Va ?_ | (refine ⟨_, h1, ?_⟩) | (refine ⟨false, ?_⟩) | (refine And.intro ⟨room_o (by omega), hDl, b2⟩ ?_) | exact True.intro | refine Av.Vb ?_ | exact ⟨rfl, rfl, rfl⟩ | exact ⟨rfl, rfl⟩ | (refine Av.Vc ?_ ?_ <;> intro hBr <;> first | (exfalso; omega) | (exfalso; contradiction) | (exfalso; exact hBr rfl) | skip) | refine Av.Vd ?_ | exact rfl)
  exact ⟨⟨i + 1, _, by omega, hs, rfl, rfl⟩, hdec _ _ _ _⟩
 ·obtain rfl : i = os.length := by omega
  rw [List.take_length] at hD
  subst hD
  exact Av.W
end Go.Proofs.YtbaedepmogkkeaaGreat.Av
namespace Go.Proofs.YtbaedepmogkkeaaGreat.Av
open Go Go.RowKit Tre
set_option linter.unusedVariables false
set_option linter.unusedSimpArgs false
set_option maxRecDepth 100000
set_option maxHeartbeats 1000000
theorem underL_nil (l : List Pr) : underL [] l = l := by
 unfold underL
 rw [List.filter_eq_self]
 intro a _
 rfl
theorem like_ok {t : Tr} (l : List Pr) (h : Tr.Good t) (hn : t.toL.length ≤ 1000) (hk : ∀ x ∈ t.toL, x.1.length ≤ 1000000000) (hl : l.length ≤ 1000) (hb : bytesL l ≤ 1000000000000) :
  SP 19 [trA t, .vs l.length (prC l)] (B (decide (t.toL = l))) := by
 have c1 := len_ok_ t
 have c2 := bytes_ok t
 have c3 := pbytes_ok l (by omega) hb _ rfl
 have c4 := told_ok t [] ((l.length : Int) + 1) h.srt (by omega) hk (by simp)
 rw [underL_nil] at c4
 have e1 := Tr.cn_len t
 have e2 := Tr.wt_len t
 rw [e1] at c1
 rw [e2] at c2
 obtain ⟨m, hm⟩ : ∃ m : List Pr, m = t.toL.take ((l.length : Int) + 1).toNat := ⟨_, rfl⟩
 rw [← hm] at c4
 have c5 := psame_ok m l (by rw [hm, List.length_take]; omega) (by omega)
 obtain ⟨n1, hn1⟩ : ∃ n1 : Nat, n1 = t.toL.length := ⟨_, rfl⟩
 obtain ⟨n2, hn2⟩ : ∃ n2 : Nat, n2 = bytesL t.toL := ⟨_, rfl⟩
 obtain ⟨b2, hb2⟩ : ∃ b2 : Nat, b2 = bytesL l := ⟨_, rfl⟩
 rw [← hn1] at c1
 rw [← hn2] at c2
 rw [← hb2] at c3
 have key : decide (t.toL = l) = true ↔ (n1 = l.length ∧ n2 = b2 ∧ decide (m = l) = true) := by
  rw [decide_eq_true_iff, decide_eq_true_iff]
  constructor
  ·intro e
   refine ⟨by rw [hn1, e], by rw [hn2, hb2, e], ?_⟩
   rw [hm, e]; exact List.take_of_length_le (by omega)
  ·rintro ⟨q1, q2, q3⟩
   rw [← q3, hm]; exact (List.take_of_length_le (by omega)).symm
 obtain ⟨r, hr⟩ : ∃ r, r = decide (t.toL = l) := ⟨_, rfl⟩
 rw [← hr] at key ⊢
 obtain ⟨s, hs⟩ : ∃ s, s = decide (m = l) := ⟨_, rfl⟩
 rw [← hs] at key c5
 clear hr hs hm hn1 hn2 hb2 e1 e2 hk h hb
 by_cases q1 : n1 = l.length
 case neg =>
  obtain rfl : r = false := by cases r; rfl; exact absurd (key.1 rfl).1 q1
  have q1' : ¬ (n1 : Int) = (l.length : Int) := by omega
  clear key
  refine S_ Tryz.func19 (by kernel_rfl) rfl (Nat.le_of_ble_eq_true rfl) ?_
  show avc Tryz.prog SP _ _ _ _ _ _
  dsimp only [avc, startS, Array.toList, Tryz.f19]
  exact Av.W
 by_cases q2 : n2 = b2
 case neg =>
  obtain rfl : r = false := by cases r; rfl; exact absurd (key.1 rfl).2.1 q2
  have q1' : (n1 : Int) = (l.length : Int) := by omega
  have q2' : ¬ (n2 : Int) = (b2 : Int) := by omega
  clear key
  refine S_ Tryz.func19 (by kernel_rfl) rfl (Nat.le_of_ble_eq_true rfl) ?_
  show avc Tryz.prog SP _ _ _ _ _ _
  dsimp only [avc, startS, Array.toList, Tryz.f19]
  exact Av.W
 obtain rfl : r = s := by
  cases s
  ·cases r; rfl; exact absurd (key.1 rfl).2.2 (by decide)
  ·exact key.2 ⟨q1, q2, rfl⟩
 have q1' : (n1 : Int) = (l.length : Int) := by omega
 have q2' : (n2 : Int) = (b2 : Int) := by omega
 clear key
 refine S_ Tryz.func19 (by kernel_rfl) rfl (Nat.le_of_ble_eq_true rfl) ?_
 show avc Tryz.prog SP _ _ _ _ _ _
 dsimp only [avc, startS, Array.toList, Tryz.f19]
 exact Av.W
end Go.Proofs.YtbaedepmogkkeaaGreat.Av
namespace Go.Proofs.YtbaedepmogkkeaaGreat.Av
open Go Go.RowKit
set_option linter.unusedVariables false
set_option linter.unusedSimpArgs false
set_option maxRecDepth 100000
set_option maxHeartbeats 1000000
abbrev Key := List UInt8
abbrev Wr := Nat × Key × Key
def wrC (P : List Wr) : List AV := P.flatMap fun x => [Z x.1, T x.2.1, T x.2.2]
inductive Pd where
 | nil
 | row (fz : Bool)
 | sh
abbrev secB (L : List Key) : ABlk := ⟨L.map T, some 9, false, true⟩
abbrev penB (P : List Wr) (fz : Bool) : ABlk := ⟨wrC P, some 166, fz, true⟩
abbrev headB (n : Nat) (p : AV) (w : Int) : ABlk := ⟨[B true, .sl 1 n, p, Z w], none, false, false⟩
def dsk (q : Pd) (L : List Key) (P : List Wr) (w : Int) : List ABlk := match q with
 | .nil => [headB L.length nilA w, secB L]
 | .row fz => [headB L.length (.sl 2 P.length) w, secB L, penB P fz]
 | .sh => [headB L.length (.vf P.length (wrC P)) w, secB L]
def PdOk (q : Pd) (P : List Wr) : Prop := match q with
 | .nil => P = []
 | _ => True
section
variable (q : Pd) (L : List Key) (P : List Wr) (w : Int)
theorem dok_ok : SM 91 [.ptr 0 0] (dsk q L P w) [.ptr 0 0] (B true) (dsk q L P w) := by
 cases q
 all_goals
  refine SM_ Tryz.func91 (by kernel_rfl) rfl (Nat.le_of_ble_eq_true rfl) (Nat.le_refl 1) ?_
  show avc Tryz.prog SP _ _ _ _ _ _
  dsimp only [avc, startS, Array.toList, Tryz.f91]
  exact Av.W
theorem dhas_ok (n : Int) : SM 92 [.ptr 0 0, Z n] (dsk q L P w) [.ptr 0 0] (B (decide (0 ≤ n ∧ n < (L.length : Int)))) (dsk q L P w) := by
 by_cases h0 : 0 ≤ n
 ·by_cases h1 : n < (L.length : Int)
  ·rw [decide_eq_true ⟨h0, h1⟩]
   have e : decide (n < (L.length : Int)) = true := decide_eq_true h1
   cases q
   all_goals
    refine SM_ Tryz.func92 (by kernel_rfl) rfl (Nat.le_of_ble_eq_true rfl) (Nat.le_succ 1) ?_
    show avc Tryz.prog SP _ _ _ _ _ _
    dsimp only [avc, startS, Array.toList, Tryz.f92]
    repeat' ((try conv => whnf) <;> first | refine Av.Va ?_ | (exact And.intro (congrArg (fun b => AV.ex (Value.bool b)) e) rfl) | exact True.intro | refine Av.Vb ?_ | exact ⟨rfl, rfl, rfl⟩ | exact ⟨rfl, rfl⟩ | (refine Av.Vc ?_ ?_ <;> intro hBr <;> first | (exfalso; omega) | (exfalso; contradiction) | (exfalso; exact hBr rfl) | skip) | refine Av.Vd ?_ | exact rfl)
  ·rw [decide_eq_false (fun h => h1 h.2)]
   have e : decide (n < (L.length : Int)) = false := decide_eq_false h1
   cases q
   all_goals
    refine SM_ Tryz.func92 (by kernel_rfl) rfl (Nat.le_of_ble_eq_true rfl) (Nat.le_succ 1) ?_
    show avc Tryz.prog SP _ _ _ _ _ _
    dsimp only [avc, startS, Array.toList, Tryz.f92]
    repeat' ((try conv => whnf) <;> first | refine Av.Va ?_ | (exact And.intro (congrArg (fun b => AV.ex (Value.bool b)) e) rfl) | exact True.intro | refine Av.Vb ?_ | exact ⟨rfl, rfl, rfl⟩ | exact ⟨rfl, rfl⟩ | (refine Av.Vc ?_ ?_ <;> intro hBr <;> first | (exfalso; omega) | (exfalso; contradiction) | (exfalso; exact hBr rfl) | skip) | refine Av.Vd ?_ | exact rfl)
 ·rw [decide_eq_false (fun h => h0 h.1)]
  cases q
  all_goals
   refine SM_ Tryz.func92 (by kernel_rfl) rfl (Nat.le_of_ble_eq_true rfl) (Nat.le_succ 1) ?_
   show avc Tryz.prog SP _ _ _ _ _ _
   dsimp only [avc, startS, Array.toList, Tryz.f92]
   exact Av.W
theorem dsize_ok : SM 82 [.ptr 0 0] (dsk q L P w) [.ptr 0 0] (Z L.length) (dsk q L P w) := by
 have c := dok_ok q L P w
 cases q
 all_goals
  refine SM_ Tryz.func82 (by kernel_rfl) rfl (Nat.le_of_ble_eq_true rfl) (Nat.le_refl 1) ?_
  show avc Tryz.prog SP _ _ _ _ _ _
  dsimp only [avc, startS, Array.toList, Tryz.f82]
  exact Av.W
theorem dpending_ok (hq : PdOk q P) : SM 43 [.ptr 0 0] (dsk q L P w) [.ptr 0 0] (Z P.length) (dsk q L P w) := by
 have c := dok_ok q L P w
 cases q with
 | nil =>
  have hq : P = [] := hq
  subst hq
  refine SM_ Tryz.func43 (by kernel_rfl) rfl (Nat.le_of_ble_eq_true rfl) (Nat.le_refl 1) ?_
  show avc Tryz.prog SP _ _ _ _ _ _
  dsimp only [avc, startS, Array.toList, Tryz.f43]
  exact Av.W
 | _ =>
  refine SM_ Tryz.func43 (by kernel_rfl) rfl (Nat.le_of_ble_eq_true rfl) (Nat.le_refl 1) ?_
  show avc Tryz.prog SP _ _ _ _ _ _
  dsimp only [avc, startS, Array.toList, Tryz.f43]
  exact Av.W
theorem hsS : sizeT Tryz.prog 9 = 1 := by kernel_rfl
theorem secAt {L : List Key} {i : Nat} (h : i < L.length) : (L.map T)[mulS (i : Int).toNat (sizeT Tryz.prog 9)]? = some (T L[i]) := by
 rw [hsS, mulS_eq, Int.toNat_natCast, Nat.mul_one, List.getElem?_map, List.getElem?_eq_getElem h]; rfl
theorem dread_yes {i : Nat} (h : i < L.length) : SM 93 [.ptr 0 0, Z i] (dsk q L P w) [.ptr 0 0] (.tup [T L[i], Z 0]) (dsk q L P w) := by
 have c := dok_ok q L P w
 have c2 := dhas_ok q L P w i
 rw [decide_eq_true ⟨by omega, by omega⟩] at c2
 have hat := secAt h
 generalize L[i] = v at hat
 cases q
 all_goals
  refine SM_ Tryz.func93 (by kernel_rfl) rfl (Nat.le_of_ble_eq_true rfl) (Nat.le_succ 1) ?_
  show avc Tryz.prog SP _ _ _ _ _ _
  dsimp only [avc, startS, Array.toList, Tryz.f93]
  exact Av.W
theorem dsync_ok : SM 122 [.ptr 0 0] (dsk q L P w) [.ptr 0 0] (Z 0) (dsk .nil L [] w) := by
 have c := dok_ok q L P w
 cases q
 all_goals
  refine SM_ Tryz.func122 (by kernel_rfl) rfl (Nat.le_of_ble_eq_true rfl) (Nat.le_refl 1) ?_
  show avc Tryz.prog SP _ _ _ _ _ _
  dsimp only [avc, startS, Array.toList, Tryz.f122]
  exact Av.W
theorem hsW : sizeT Tryz.prog 166 = 3 := by kernel_rfl
theorem wrC_len (P : List Wr) : (wrC P).length = P.length * 3 := by
 induction P with
 | nil => rfl
 | cons o l ih => simp only [wrC, List.flatMap_cons, List.length_append, List.length_cons, List.length_nil] at *; omega
theorem wrC_app (a b : List Wr) : wrC (a ++ b) = wrC a ++ wrC b := by simp [wrC]
theorem room_w {k : Nat} (hk : k ≤ 1000000) : room k (bytesT Tryz.prog 166) := by
 rw [show bytesT Tryz.prog 166 = 40 by kernel_rfl]; unfold room; omega
theorem one_w (i : Nat) (s v : Key) : ([Z i, T s, T v] : List AV).length = 1 * sizeT Tryz.prog 166 ∧ ∀ u ∈ ([Z i, T s, T v] : List AV), one1 u = true := by
 rw [hsW]
 refine ⟨rfl, fun u hu => ?_⟩
 simp only [List.mem_cons, List.not_mem_nil, or_false] at hu
 rcases hu with rfl | rfl | rfl <;> rfl
def Pd.next : Pd → Pd
 | .nil => .row false
 | .row fz => .row fz
 | .sh => .row false
theorem dwrite_yes {i : Nat} (s : Key) (h : i < L.length) (hs : s.length = 64) (hq : PdOk q P) (hP : P.length ≤ 1000) (hw0 : 0 ≤ w) (hw : w ≤ 1000000) :
  SM 23 [.ptr 0 0, Z i, T s] (dsk q L P w) [.ptr 0 0] (Z 0) (dsk q.next (L.set i s) (P ++ [(i, s, L[i])]) (w + 1)) := by
 have c := dok_ok q L P w
 have c2 := dhas_ok q L P w i
 rw [decide_eq_true ⟨by omega, by omega⟩] at c2
 have hat := secAt h
 have hs2 : ((bs s).size : Int) = 64 := by rw [bs_size]; omega
 have hset : (L.set i s).map T = setL (L.map T) (mulS (i : Int).toNat (sizeT Tryz.prog 9)) [T s] := by
  rw [hsS, mulS_eq, Int.toNat_natCast, Nat.mul_one]
  show _ = (L.map T).set i (T s)
  rw [List.map_set]
 have hidx : mulS (i : Int).toNat (sizeT Tryz.prog 9) + 1 ≤ (L.map T).length := by rw [hsS, mulS_eq, Int.toNat_natCast, List.length_map]; omega
 have hidx2 : (L.map T).length = L.length := List.length_map _
 have ho := one_w i s L[i]
 have hwl : (wrC P).length = P.length * sizeT Tryz.prog 166 := by rw [hsW, wrC_len]
 have hp : wrC (P ++ [(i, s, L[i])]) = wrC P ++ [Z i, T s, T L[i]] := wrC_app P _
 have hpl : (P ++ [(i, s, L[i])]).length = P.length + 1 := by simp
 cases q with
 | nil =>
  have hq : P = [] := hq
  subst hq
  have e : dsk (Pd.next .nil) (L.set i s) ([] ++ [(i, s, L[i])]) (w + 1) = [headB L.length (.sl 2 1) (w + 1), ⟨setL (L.map T) (mulS (i : Int).toNat (sizeT Tryz.prog 9)) [T s], some 9, false, true⟩, ⟨[Z i, T s, T L[i]], some 166, false, true⟩] := by
   show [headB _ _ _, (⟨(L.set i s).map T, _, _, _⟩ : ABlk), _] = _
   rw [hset, List.length_set]; rfl
  rw [e]
  generalize L[i] = v at hat ho
  clear hset hp hpl e
  refine SM_ Tryz.func23 (by kernel_rfl) rfl (Nat.le_of_ble_eq_true rfl) (show 1 ≤ 3 by omega) ?_
  show avc Tryz.prog SP _ _ _ _ _ _
  dsimp only [avc, startS, Array.toList, Tryz.f23]
  repeat' ((try conv => whnf) <;> first | refine Av.Va ?_ | refine ⟨_, _, _, c, ?_⟩ | refine ⟨_, _, _, c2, ?_⟩ | (refine ⟨_, hat, ?_⟩) | (refine ⟨true, ?_⟩) | (refine And.intro ⟨room_w (by omega), ho⟩ ?_) | (refine And.intro hidx ?_) | refine ⟨[], [0,0,2,6,14,0,0,0,128,384,896,0,3968,8064,16352,32736,65534,131071,262143,524287], Av.len_ok rfl (by kernel_rfl), ?_⟩ | exact True.intro | refine Av.Vb ?_ | exact ⟨rfl, rfl, rfl⟩ | exact ⟨rfl, rfl⟩ | (refine Av.Vc ?_ ?_ <;> intro hBr <;> first | (exfalso; omega) | (exfalso; contradiction) | (exfalso; exact hBr rfl) | skip) | refine Av.Vd ?_ | exact rfl)
 | row fz =>
  have e : dsk (Pd.next (.row fz)) (L.set i s) (P ++ [(i, s, L[i])]) (w + 1) = [headB L.length (.sl 2 (P.length + 1)) (w + 1), ⟨setL (L.map T) (mulS (i : Int).toNat (sizeT Tryz.prog 9)) [T s], some 9, false, true⟩, ⟨wrC P ++ [Z i, T s, T L[i]], some 166, fz, true⟩] := by
   show [headB _ _ _, (⟨(L.set i s).map T, _, _, _⟩ : ABlk), ⟨wrC (P ++ [(i, s, L[i])]), _, _, _⟩] = _
   rw [hset, List.length_set, hp, hpl]
  rw [e]
  generalize L[i] = v at hat ho
  clear hset hp hpl e
  refine SM_ Tryz.func23 (by kernel_rfl) rfl (Nat.le_of_ble_eq_true rfl) (show 1 ≤ 3 by omega) ?_
  show avc Tryz.prog SP _ _ _ _ _ _
  dsimp only [avc, startS, Array.toList, Tryz.f23]
  repeat' ((try conv => whnf) <;> first | refine Av.Va ?_ | refine ⟨_, _, _, c, ?_⟩ | refine ⟨_, _, _, c2, ?_⟩ | (refine ⟨_, hat, ?_⟩) | (refine ⟨true, ?_⟩) | (refine And.intro ⟨room_w (by omega), hwl, ho⟩ ?_) | (refine And.intro hidx ?_) | refine ⟨[], [0,0,2,6,14,0,0,0,128,384,896,0,3968,8064,16352,32736,65534,131071,262143,524287], Av.len_ok rfl (by kernel_rfl), ?_⟩ | exact True.intro | refine Av.Vb ?_ | exact ⟨rfl, rfl, rfl⟩ | exact ⟨rfl, rfl⟩ | (refine Av.Vc ?_ ?_ <;> intro hBr <;> first | (exfalso; omega) | (exfalso; contradiction) | (exfalso; exact hBr rfl) | skip) | refine Av.Vd ?_ | exact rfl)
 | sh =>
  have e : dsk (Pd.next .sh) (L.set i s) (P ++ [(i, s, L[i])]) (w + 1) = [headB L.length (.sl 2 (P.length + 1)) (w + 1), ⟨setL (L.map T) (mulS (i : Int).toNat (sizeT Tryz.prog 9)) [T s], some 9, false, true⟩, ⟨wrC P ++ [Z i, T s, T L[i]], some 166, false, true⟩] := by
   show [headB _ _ _, (⟨(L.set i s).map T, _, _, _⟩ : ABlk), ⟨wrC (P ++ [(i, s, L[i])]), _, _, _⟩] = _
   rw [hset, List.length_set, hp, hpl]
  rw [e]
  generalize L[i] = v at hat ho
  clear hset hp hpl e
  refine SM_ Tryz.func23 (by kernel_rfl) rfl (Nat.le_of_ble_eq_true rfl) (show 1 ≤ 3 by omega) ?_
  show avc Tryz.prog SP _ _ _ _ _ _
  dsimp only [avc, startS, Array.toList, Tryz.f23]
  repeat' ((try conv => whnf) <;> first | refine Av.Va ?_ | refine ⟨_, _, _, c, ?_⟩ | refine ⟨_, _, _, c2, ?_⟩ | (refine ⟨_, hat, ?_⟩) | (refine ⟨true, ?_⟩) | (refine And.intro ⟨room_w (by omega), hwl, by omega, ho⟩ ?_) | (refine And.intro hidx ?_) | refine ⟨[], [0,0,2,6,14,0,0,0,128,384,896,0,3968,8064,16352,32736,65534,131071,262143,524287], Av.len_ok rfl (by kernel_rfl), ?_⟩ | exact True.intro | refine Av.Vb ?_ | exact ⟨rfl, rfl, rfl⟩ | exact ⟨rfl, rfl⟩ | (refine Av.Vc ?_ ?_ <;> intro hBr <;> first | (exfalso; omega) | (exfalso; contradiction) | (exfalso; exact hBr rfl) | skip) | refine Av.Vd ?_ | exact rfl)
end
def undoL (P : List Wr) (L : List Key) : List Key := P.foldr (fun x L => L.set x.1 x.2.2) L
theorem secSet (L : List Key) (a : Nat) (v : Key) : setL (L.map T) (mulS (a : Int).toNat (sizeT Tryz.prog 9)) [T v] = (L.set a v).map T := by
 rw [hsS, mulS_eq, Int.toNat_natCast, Nat.mul_one]
 show (L.map T).set a (T v) = _
 rw [List.map_set]
theorem secIdx {L : List Key} {a : Nat} (h : a < L.length) : mulS (a : Int).toNat (sizeT Tryz.prog 9) + 1 ≤ (L.map T).length := by
 rw [hsS, mulS_eq, Int.toNat_natCast, List.length_map]; omega
end Go.Proofs.YtbaedepmogkkeaaGreat.Av
namespace Go.Proofs.YtbaedepmogkkeaaGreat.Av
open Go Go.RowKit Tre
set_option linter.unusedVariables false
set_option linter.unusedSimpArgs false
set_option maxRecDepth 100000
set_option maxHeartbeats 1000000
abbrev opA (o : OpP) : AV := .ex (.agg #[.int .u8 o.1, .string (bs o.2.1), .string (bs o.2.2)])
/-! ### the same -/
end Go.Proofs.YtbaedepmogkkeaaGreat.Av
namespace Go.Proofs.YtbaedepmogkkeaaGreat.Av
set_option linter.unusedSimpArgs false
open Go Go.RowKit
set_option linter.unusedVariables false
set_option maxHeartbeats 1000000
theorem Rep.ex_inv2 {w : World} {p : Nat → Option Nat} {c : Nat → Nat} {F : Nat → Nat → Prop} {D : Nat → Prop} {v x : Value} (h : Rep w p c F D (.ex v) x) : x = v := by cases h; rfl
def Ren (n n2 : Nat) (σ : Nat → Nat) (v v2 : AV) : Prop := ∀ (w : World) p c F (x : Value), Rep w p c F (ltD n2) v2 x → Rep w (fun i => p (σ i)) (fun i => c (σ i)) F (ltD n) v x
theorem Ren.ex (n n2 : Nat) (σ : Nat → Nat) (v : Value) : Ren n n2 σ (.ex v) (.ex v) := fun w p c F x h => by rw [h.ex_inv2]; exact .ex _ _
theorem Ren.sl {n n2 r l : Nat} {σ : Nat → Nat} (hr : r < n) : Ren n n2 σ (.sl r l) (.sl (σ r) l) := fun w p c F x h => by
 cases h with
 | sl D r n' hd hn => exact .sl _ r l hr hn
theorem Ren.ptr {n n2 r o : Nat} {σ : Nat → Nat} (hr : r < n) : Ren n n2 σ (.ptr r o) (.ptr (σ r) o) := fun w p c F x h => by
 cases h with
 | ptr D r off g h1 h2 => exact .ptr _ r o g hr h2
structure RenB (n n2 : Nat) (σ : Nat → Nat) (b b2 : ABlk) : Prop where
 el : b2.el = b.el
 fz : b2.fz = b.fz
 pu : b2.pu = b.pu
 ob : isOb b2 = isOb b
 len : b2.cells.length = b.cells.length
 cells : (b.pu = true ∧ b2.cells = b.cells) ∨ (b.pu = false ∧ ∀ j (h : j < b.cells.length) (h2 : j < b2.cells.length), Ren n n2 σ b.cells[j] b2.cells[j])
theorem RenB.same {n n2 : Nat} {σ : Nat → Nat} {b : ABlk} (h : b.pu = true) : RenB n n2 σ b b := ⟨rfl, rfl, rfl, rfl, rfl, .inl ⟨h, rfl⟩⟩
theorem smSl {P : Program} {f : FuncId} {pre pre2 : List AV} {n k : Nat} {cs : List AV} {el : Option TypeId} {fz : Bool} {bs bs2 : List ABlk} {rargs : List AV} {r : AV} {bs' : List ABlk} (σ : Nat → Nat)
  (hk : bs2[k]? = some ⟨cs, el, fz, true⟩) (hσ : ∀ i, i < bs.length → σ i < bs2.length ∧ σ i ≠ k) (hσi : ∀ i j, i < bs.length → j < bs.length → σ i = σ j → i = j)
  (hbs : ∀ i (h : i < bs.length), ∃ b2, bs2[σ i]? = some b2 ∧ RenB bs.length bs2.length σ bs[i] b2)
  (hpl : pre2.length = pre.length) (hpre : ∀ j (h : j < pre.length) (h2 : j < pre2.length), Ren bs.length bs2.length σ pre[j] pre2[j])
  (h : SoundM P f (pre ++ [.vs n cs]) bs rargs r bs') : SoundM P f (pre2 ++ [.sl k n]) bs2 rargs r bs' := by
 refine ⟨h.1, fun w p c F xs hx hr hb hF => ?_⟩
 have hxs : xs.size = pre.length + 1 := by rw [hx]; simp [hpl]
 have hlive := hb.live k ⟨cs, el, fz, true⟩ hk
 have hrl := hr pre2.length (by simp)
 rw [List.getElem_append_right (Nat.le_refl _)] at hrl
 simp only [Nat.sub_self, List.getElem_singleton] at hrl
 rw [hpl] at hrl
 generalize hX : xs.getD pre.length undef = X at hrl
 have hlt : ∀ {i : Nat} {b : ABlk}, bs[i]? = some b → ∃ h : i < bs.length, bs[i] = b := fun {i b} hi => by
  have hl : i < bs.length := by
   apply Classical.byContradiction; intro hn
   rw [List.getElem?_eq_none (by omega)] at hi; cases hi
  rw [List.getElem?_eq_getElem hl] at hi; injection hi with hi
  exact ⟨hl, hi⟩
 have hto : ∀ {i : Nat} {b : ABlk}, bs[i]? = some b → i < bs.length ∧ ∃ b2, bs2[σ i]? = some b2 ∧ RenB bs.length bs2.length σ b b2 := fun {i b} hi => by
  obtain ⟨hl, rfl⟩ := hlt hi
  exact ⟨hl, hbs i hl⟩
 have hkl : k < bs2.length := by
  apply Classical.byContradiction; intro hn
  rw [List.getElem?_eq_none (by omega)] at hk; cases hk
 have hfoot : ∀ {b b2 : ABlk} {g x : Nat} {w : World}, isOb b2 = isOb b → foot w b g x → foot w b2 g x := fun e hf => by
  unfold foot at *; rw [e]; exact hf
 have hin : ∀ x, inM w (fun i => p (σ i)) bs x → inM w p bs2 x := fun x ⟨i, b, g, h1, h2, h3⟩ => by
  obtain ⟨hi, b2, e1, e2⟩ := hto h1
  exact ⟨σ i, b2, g, e1, h2, hfoot e2.ob h3⟩
 -- what is frozen
 obtain ⟨F2, hF2a, hF2b, hF2l, hrep⟩ : ∃ F2 : Nat → Nat → Prop, (∀ g j, F g j → F2 g j) ∧ (∀ g j, F2 g j → F g j ∨ p k = some g) ∧ (∀ g j, F2 g j → g < w.heap.size) ∧
   Rep w (fun i => p (σ i)) (fun i => c (σ i)) F2 (ltD bs.length) (.vs n cs) X := by
  cases hrl with
  | sl D r n' hd hn =>
   unfold BlkOk at hlive
   cases hp : p k with
   | none =>
    rw [hp] at hlive
    simp only at hlive
    obtain ⟨e1, e2, _⟩ := hlive
    refine ⟨F, fun _ _ h => h, fun _ _ h => .inl h, fun g j h => hF g j h, ?_⟩
    rw [e2] at hn ⊢
    obtain rfl : n = 0 := by omega
    subst e1
    exact .vnil _
   | some g =>
    rw [hp] at hlive
    simp only at hlive
    obtain ⟨us, t, fr, k1, k2, k3, k4, k5⟩ := hlive
    have hg : g < w.heap.size := by
     apply Classical.byContradiction; intro hn
     rw [Array.getElem?_eq_none (by omega)] at k1; cases k1
    refine ⟨fun g' j => F g' j ∨ (g' = g ∧ j < cs.length), fun _ _ h => .inl h, fun g' j h => ?_, fun g' j h => ?_, ?_⟩
    ·rcases h with h | ⟨rfl, _⟩
     ·exact .inl h
     ·exact .inr rfl
    ·rcases h with h | ⟨rfl, _⟩
     ·exact hF g' j h
     ·exact hg
    ·show Rep w _ _ _ (ltD bs.length) (.vs n cs) (.slice (some ⟨g, 0, none⟩) n (c k))
     refine .vs _ n cs g 0 (c k) (fun j => us.getD j undef) hn (fun j hj => ⟨.inr ⟨rfl, by omega⟩, by rw [Nat.zero_add]; exact cell_at k1 (by omega)⟩) fun j hj => ?_
     have := k4 j hj
     simp only [if_true] at this
     exact this.mono ⟨fun _ h => h.elim, fun _ _ h => .inl h, fun _ _ _ => rfl⟩
 have hext : ∀ D, Ext w D (fun i => p (σ i)) (fun i => c (σ i)) F w D (fun i => p (σ i)) (fun i => c (σ i)) F2 := fun D => ⟨fun r hr => ⟨hr, rfl, rfl⟩, hF2a, fun _ _ _ => rfl⟩
 have hargs : ∀ j (hj : j < (pre ++ [AV.vs n cs]).length), Rep w (fun i => p (σ i)) (fun i => c (σ i)) F2 (ltD bs.length) (pre ++ [AV.vs n cs])[j] (xs.getD j undef) := fun j hj => by
  by_cases hp : j < pre.length
  ·rw [List.getElem_append_left hp]
   have := hr j (by simp; omega)
   rw [List.getElem_append_left (by omega)] at this
   exact (hpre j hp (by omega) w p c F _ this).mono (hext _)
  ·have hj2 : j = pre.length := by simp at hj; omega
   subst hj2
   rw [List.getElem_append_right (Nat.le_refl _)]
   simp only [Nat.sub_self, List.getElem_singleton]
   rw [hX]; exact hrep
 have hblks : BlksOk P w (fun i => p (σ i)) (fun i => c (σ i)) F2 bs := by
  refine ⟨fun i b hi => ?_, fun i i' g h1 h2 q1 q2 => hσi i i' h1 h2 (hb.inj (σ i) (σ i') g (hσ i h1).1 (hσ i' h2).1 q1 q2), fun i b g j hi hp hf => ?_, fun i b K g hi hK hp => ?_⟩
  ·obtain ⟨hil, b2, e1, e2⟩ := hto hi
   have hx := hb.live (σ i) b2 e1
   unfold BlkOk at hx ⊢
   cases hpi : p (σ i) with
   | none =>
    rw [hpi] at hx
    simp only [hpi] at hx ⊢
    obtain ⟨x1, x2, x3⟩ := hx
    refine ⟨?_, x2, by rw [← e2.el]; exact x3⟩
    have := e2.len; rw [x1] at this; exact List.eq_nil_of_length_eq_zero this.symm
   | some g =>
    rw [hpi] at hx
    simp only [hpi] at hx ⊢
    obtain ⟨us, t, fr, k1, k2, k3, k4, k5⟩ := hx
    refine ⟨us, t, fr, k1, k2, by rw [← e2.len]; exact k3, fun j hj => ?_, fun e he => k5 e (by rw [e2.el]; exact he)⟩
    have hj2 : j < b2.cells.length := by rw [e2.len]; exact hj
    have hm := k4 j hj2
    rw [e2.pu] at hm
    rcases e2.cells with ⟨q1, q2⟩ | ⟨q1, q2⟩
    ·rw [q1] at hm ⊢
     simp only [if_true] at hm ⊢
     have : b2.cells[j] = b.cells[j] := by simp [q2]
     rw [this] at hm
     exact hm.mono ⟨fun _ h => h.elim, hF2a, fun _ _ _ => rfl⟩
    ·rw [q1] at hm ⊢
     exact (q2 j hj hj2 w p c F _ hm).mono (hext _)
  ·obtain ⟨hil, b2, e1, e2⟩ := hto hi
   rcases hF2b g j hf with hf | hf
   ·have := hb.fz (σ i) b2 g j e1 hp hf
    rw [e2.fz, e2.len] at this; exact this
   ·exact absurd (hb.inj (σ i) k g (hσ i hil).1 hkl hp hf) (hσ i hil).2
  ·obtain ⟨hil, b2, e1, e2⟩ := hto hi
   obtain ⟨o1, o2⟩ := hb.ob (σ i) b2 K g e1 (by rw [e2.ob]; exact hK) hp
   refine ⟨o1, fun x hx => ?_⟩
   obtain ⟨q1, q2, q3⟩ := o2 x hx
   refine ⟨q1, fun j hj => ?_, fun i' b' g' hi' hp' hne hf => ?_⟩
   ·rcases hF2b x j hj with hf | hf
    ·exact q2 j hf
    ·exact q3 k _ x hk hf (Ne.symm (hσ i hil).2) (.inl rfl)
   ·obtain ⟨hil', b2', e1', e2'⟩ := hto hi'
    exact q3 (σ i') b2' g' e1' hp' (fun e => hne (hσi i' i hil' hil e)) (hfoot e2'.ob hf)
 have hmine : ∀ g, (Ori.mk w (inM w (fun i => p (σ i)) bs) #[] []).mine g → (Ori.mk w (inM w p bs2) #[] []).mine g := fun g hg => hg.elim (fun h => Or.inl h) (fun h => Or.inr (hin g h))
 have hc := h.2 w (fun i => p (σ i)) (fun i => c (σ i)) F2 xs (by rw [hxs]; simp) hargs hblks hF2l
 refine hc.mono ?_
 clear hc
 rintro e w' ⟨v, p', c', F', h1, h2, h3, h4, h5, h6, h7, h8, h9⟩
 refine ⟨v, p', c', F', h1, ⟨h2.os, h2.tape, h2.output, h2.size, fun q hq => h2.block q fun hm => hq (hmine q hm)⟩, fun g j hj => h3 g j (hF2a g j hj), fun g j hj => ⟨(h4 g j hj).1, ?_⟩, h5, fun i b g x a1 a2 a3 => hmine x (h6 i b g x a1 a2 a3), by simp at h7 ⊢; omega, h8, h9⟩
 rcases (h4 g j hj).2 with q | q
 ·rcases hF2b g j q with q | q
  ·exact .inl q
  ·exact .inr (.inr ⟨k, _, g, hk, q, .inl rfl⟩)
 ·exact .inr (hmine g q)
end Go.Proofs.YtbaedepmogkkeaaGreat.Av
