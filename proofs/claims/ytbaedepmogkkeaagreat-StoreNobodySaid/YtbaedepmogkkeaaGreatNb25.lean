/- What the claim stands on, Nb25: contracts of functions and plain facts. No conditions. -/
import Derived.Test.YtbaedepmogkkeaaGreatNb20
import Derived.Test.YtbaedepmogkkeaaGreatNb23
import Derived.Test.YtbaedepmogkkeaaGreatNb24
import Derived.Test.YtbaedepmogkkeaaGreatNb17
import Derived.Test.YtbaedepmogkkeaaGreatNb13
namespace Go.Proofs.YtbaedepmogkkeaaGreat.Av
open Go Go.RowKit Tre
set_option linter.unusedVariables false
set_option linter.unusedSimpArgs false
set_option maxRecDepth 100000
set_option maxHeartbeats 1000000
def checkP (o : OpP) : Int :=
 if o.1 < 1 ∨ 3 < o.1 then 22 else if 100 < o.2.1.length ∨ 900 < o.2.2.length then 5 else if (o.1 < 3 ∧ o.2.1 = []) ∨ (1 < o.1 ∧ o.2.2 ≠ []) then 2 else 0
theorem not13 (n : Nat) (h1 : 1 ≤ n) (h3 : n ≤ 3) : ¬ (n < 1 ∨ 3 < n) := by omega
theorem opCheck_raw (n : Nat) (a v : Key) (h1 : a.length ≤ 1000000000) (h2 : v.length ≤ 1000000000) : SP 202 [.ex (.agg #[.int .u8 n, .string (bs a), .string (bs v)])] (Z (checkP (n, a, v))) := by
 have sa := bs_size a
 have sv := bs_size v
 have ea : ((bs a).toList == (bs []).toList) = decide (a = []) := eqT_ a []
 have ev : (!((bs v).toList == (bs []).toList)) = !decide (v = []) := congrArg (!·) (eqT_ v [])
 have ha : a.length ≤ 1000000000 := h1
 have hv : v.length ≤ 1000000000 := h2
 by_cases k1 : n = 1
 ·subst k1
  by_cases l1 : 100 < a.length
  ·rw [show checkP (1, a, v) = 5 from (if_neg (not13 _ (by show _ ≤ _; simp only; omega) (by show _ ≤ _; simp only; omega))).trans (if_pos (.inl l1))]
   by_cases q : a = []
   ·subst q; simp at l1
   rw [decide_eq_false q] at ea
   refine S_ Tryz.func202 (by kernel_rfl) rfl (Nat.le_of_ble_eq_true rfl) ?_
   show avc Tryz.prog SP _ _ _ _ _ _
   dsimp only [avc, startS, Array.toList, Tryz.f202]
   exact Av.W
  by_cases l2 : 900 < v.length
  ·rw [show checkP (1, a, v) = 5 from (if_neg (not13 _ (by show _ ≤ _; simp only; omega) (by show _ ≤ _; simp only; omega))).trans (if_pos (.inr l2))]
   by_cases q : a = []
   ·rw [decide_eq_true q] at ea
    refine S_ Tryz.func202 (by kernel_rfl) rfl (Nat.le_of_ble_eq_true rfl) ?_
    show avc Tryz.prog SP _ _ _ _ _ _
    dsimp only [avc, startS, Array.toList, Tryz.f202]
    exact Av.W
   ·rw [decide_eq_false q] at ea
    refine S_ Tryz.func202 (by kernel_rfl) rfl (Nat.le_of_ble_eq_true rfl) ?_
    show avc Tryz.prog SP _ _ _ _ _ _
    dsimp only [avc, startS, Array.toList, Tryz.f202]
    exact Av.W
  by_cases q : a = []
  ·rw [show checkP (1, a, v) = 2 from (if_neg (not13 _ (by show _ ≤ _; simp only; omega) (by show _ ≤ _; simp only; omega))).trans ((if_neg (by show ¬ (100 < a.length ∨ 900 < v.length); omega)).trans (if_pos (.inl ⟨Nat.le_of_ble_eq_true rfl, q⟩)))]
   rw [decide_eq_true q] at ea
   refine S_ Tryz.func202 (by kernel_rfl) rfl (Nat.le_of_ble_eq_true rfl) ?_
   show avc Tryz.prog SP _ _ _ _ _ _
   dsimp only [avc, startS, Array.toList, Tryz.f202]
   exact Av.W
  ·rw [show checkP (1, a, v) = 0 from (if_neg (not13 _ (by show _ ≤ _; simp only; omega) (by show _ ≤ _; simp only; omega))).trans ((if_neg (by show ¬ (100 < a.length ∨ 900 < v.length); omega)).trans (if_neg (by rintro (⟨_, h⟩ | ⟨h, _⟩); exact q h; exact absurd h (Nat.not_lt.2 (Nat.le_of_ble_eq_true rfl)))))]
   rw [decide_eq_false q] at ea
   refine S_ Tryz.func202 (by kernel_rfl) rfl (Nat.le_of_ble_eq_true rfl) ?_
   show avc Tryz.prog SP _ _ _ _ _ _
   dsimp only [avc, startS, Array.toList, Tryz.f202]
   exact Av.W
 by_cases k2 : n = 2
 ·subst k2
  by_cases l1 : 100 < a.length
  ·rw [show checkP (2, a, v) = 5 from (if_neg (not13 _ (by show _ ≤ _; simp only; omega) (by show _ ≤ _; simp only; omega))).trans (if_pos (.inl l1))]
   by_cases q : a = []
   ·subst q; simp at l1
   rw [decide_eq_false q] at ea
   by_cases q2 : v = []
   ·rw [decide_eq_true q2] at ev
    refine S_ Tryz.func202 (by kernel_rfl) rfl (Nat.le_of_ble_eq_true rfl) ?_
    show avc Tryz.prog SP _ _ _ _ _ _
    dsimp only [avc, startS, Array.toList, Tryz.f202]
    exact Av.W
   ·rw [decide_eq_false q2] at ev
    refine S_ Tryz.func202 (by kernel_rfl) rfl (Nat.le_of_ble_eq_true rfl) ?_
    show avc Tryz.prog SP _ _ _ _ _ _
    dsimp only [avc, startS, Array.toList, Tryz.f202]
    exact Av.W
  by_cases l2 : 900 < v.length
  ·rw [show checkP (2, a, v) = 5 from (if_neg (not13 _ (by show _ ≤ _; simp only; omega) (by show _ ≤ _; simp only; omega))).trans (if_pos (.inr l2))]
   have q2 : v ≠ [] := by intro h; subst h; simp at l2
   rw [decide_eq_false q2] at ev
   refine S_ Tryz.func202 (by kernel_rfl) rfl (Nat.le_of_ble_eq_true rfl) ?_
   show avc Tryz.prog SP _ _ _ _ _ _
   dsimp only [avc, startS, Array.toList, Tryz.f202]
   exact Av.W
  by_cases q2 : v = []
  ·rw [decide_eq_true q2] at ev
   by_cases q : a = []
   ·rw [show checkP (2, a, v) = 2 from (if_neg (not13 _ (by show _ ≤ _; simp only; omega) (by show _ ≤ _; simp only; omega))).trans ((if_neg (by show ¬ (100 < a.length ∨ 900 < v.length); omega)).trans (if_pos (.inl ⟨Nat.le_of_ble_eq_true rfl, q⟩)))]
    rw [decide_eq_true q] at ea
    refine S_ Tryz.func202 (by kernel_rfl) rfl (Nat.le_of_ble_eq_true rfl) ?_
    show avc Tryz.prog SP _ _ _ _ _ _
    dsimp only [avc, startS, Array.toList, Tryz.f202]
    exact Av.W
   ·rw [show checkP (2, a, v) = 0 from (if_neg (not13 _ (by show _ ≤ _; simp only; omega) (by show _ ≤ _; simp only; omega))).trans ((if_neg (by show ¬ (100 < a.length ∨ 900 < v.length); omega)).trans (if_neg (by rintro (⟨_, h⟩ | ⟨_, h⟩); exact q h; exact h q2)))]
    rw [decide_eq_false q] at ea
    refine S_ Tryz.func202 (by kernel_rfl) rfl (Nat.le_of_ble_eq_true rfl) ?_
    show avc Tryz.prog SP _ _ _ _ _ _
    dsimp only [avc, startS, Array.toList, Tryz.f202]
    exact Av.W
  ·rw [show checkP (2, a, v) = 2 from (if_neg (not13 _ (by show _ ≤ _; simp only; omega) (by show _ ≤ _; simp only; omega))).trans ((if_neg (by show ¬ (100 < a.length ∨ 900 < v.length); omega)).trans (if_pos (.inr ⟨Nat.le_of_ble_eq_true rfl, q2⟩)))]
   rw [decide_eq_false q2] at ev
   refine S_ Tryz.func202 (by kernel_rfl) rfl (Nat.le_of_ble_eq_true rfl) ?_
   show avc Tryz.prog SP _ _ _ _ _ _
   dsimp only [avc, startS, Array.toList, Tryz.f202]
   exact Av.W
 by_cases k3 : n = 3
 ·subst k3
  by_cases l1 : 100 < a.length ∨ 900 < v.length
  ·rw [show checkP (3, a, v) = 5 from (if_neg (not13 _ (by show _ ≤ _; simp only; omega) (by show _ ≤ _; simp only; omega))).trans (if_pos l1)]
   by_cases q2 : v = []
   ·rw [decide_eq_true q2] at ev
    refine S_ Tryz.func202 (by kernel_rfl) rfl (Nat.le_of_ble_eq_true rfl) ?_
    show avc Tryz.prog SP _ _ _ _ _ _
    dsimp only [avc, startS, Array.toList, Tryz.f202]
    exact Av.W
   ·rw [decide_eq_false q2] at ev
    refine S_ Tryz.func202 (by kernel_rfl) rfl (Nat.le_of_ble_eq_true rfl) ?_
    show avc Tryz.prog SP _ _ _ _ _ _
    dsimp only [avc, startS, Array.toList, Tryz.f202]
    exact Av.W
  by_cases q2 : v = []
  ·rw [show checkP (3, a, v) = 0 from (if_neg (not13 _ (by show _ ≤ _; simp only; omega) (by show _ ≤ _; simp only; omega))).trans ((if_neg l1).trans (if_neg (by rintro (⟨h, _⟩ | ⟨_, h⟩); exact absurd h (Nat.not_lt.2 (Nat.le_of_ble_eq_true rfl)); exact h q2)))]
   rw [decide_eq_true q2] at ev
   refine S_ Tryz.func202 (by kernel_rfl) rfl (Nat.le_of_ble_eq_true rfl) ?_
   show avc Tryz.prog SP _ _ _ _ _ _
   dsimp only [avc, startS, Array.toList, Tryz.f202]
   exact Av.W
  ·rw [show checkP (3, a, v) = 2 from (if_neg (not13 _ (by show _ ≤ _; simp only; omega) (by show _ ≤ _; simp only; omega))).trans ((if_neg l1).trans (if_pos (.inr ⟨Nat.le_of_ble_eq_true rfl, q2⟩)))]
   rw [decide_eq_false q2] at ev
   refine S_ Tryz.func202 (by kernel_rfl) rfl (Nat.le_of_ble_eq_true rfl) ?_
   show avc Tryz.prog SP _ _ _ _ _ _
   dsimp only [avc, startS, Array.toList, Tryz.f202]
   exact Av.W
 ·rw [show checkP (n, a, v) = 22 from if_pos (by show n < 1 ∨ 3 < n; omega)]
  have g1 : ¬ (n : Int) = 1 := by omega
  have g2 : ¬ (n : Int) = 2 := by omega
  have g3 : ¬ (n : Int) = 3 := by omega
  refine S_ Tryz.func202 (by kernel_rfl) rfl (Nat.le_of_ble_eq_true rfl) ?_
  show avc Tryz.prog SP _ _ _ _ _ _
  dsimp only [avc, startS, Array.toList, Tryz.f202]
  exact Av.W
theorem opCheck_ok (o : OpP) (h1 : o.2.1.length ≤ 1000000000) (h2 : o.2.2.length ≤ 1000000000) : SP 202 [opA o] (Z (checkP o)) := opCheck_raw o.1 o.2.1 o.2.2 h1 h2
def firstE : List OpP → Int
 | [] => 0
 | o :: l => if checkP o = 0 then firstE l else checkP o
def checkL (l : List OpP) : Int := if 40 < l.length then 24 else firstE l
theorem firstE_drop {l : List OpP} {i : Nat} (h : i < l.length) : firstE (l.drop i) = if checkP l[i] = 0 then firstE (l.drop (i + 1)) else checkP l[i] := by
 rw [List.drop_eq_getElem_cons h]; rfl
def Sized (l : List OpP) : Prop := l.length ≤ 1000000 ∧ ∀ o ∈ l, o.2.1.length ≤ 1000000 ∧ o.2.2.length ≤ 1000000
theorem check_ok (l : List OpP) (hl : Sized l) (res : Int) (hres : checkL l = res) : SP 154 [.vs l.length (opC l)] (Z res) := by
 obtain ⟨hl, ho⟩ := hl
 by_cases h40 : 40 < l.length
 ·obtain rfl : 24 = res := (if_pos h40).symm.trans hres
  refine S_ Tryz.func154 (by kernel_rfl) rfl (Nat.le_of_ble_eq_true rfl) ?_
  show avc Tryz.prog SP _ _ _ _ _ _
  dsimp only [avc, startS, Array.toList, Tryz.f154]
  exact Av.W
 have hr : firstE l = res := (if_neg h40).symm.trans hres
 refine S_ Tryz.func154 (by kernel_rfl) rfl (Nat.le_of_ble_eq_true rfl) ?_
 show avc Tryz.prog SP _ _ _ _ _ _
 dsimp only [avc, startS, Array.toList, Tryz.f154]
 refine Av.Wk ?_
 refine ⟨[11, 9, 10], [], fun vs bl => ∃ i : Nat, i ≤ l.length ∧ firstE (l.drop i) = res ∧ (vs = [Z i, .vs l.length (opC l), Z l.length] ∧ bl = []), muI l.length, ?_, ?_⟩
 ·exact ⟨0, by omega, by rw [List.drop_zero]; exact hr, rfl, rfl⟩
 rintro vs bl ⟨i, hi, he, rfl, rfl⟩
 by_cases hlt : i < l.length
 ·have hw := opW hlt
  have hb := ho _ (List.getElem_mem hlt)
  have c := opCheck_ok l[i] (by omega) (by omega)
  have hdec := mu_I hlt
  rw [firstE_drop hlt] at he
  clear hres hr ho
  generalize l[i] = o at c hw he hb
  by_cases h0 : checkP o = 0
  ·rw [if_pos h0] at he
   rw [h0] at c
   refine Av.Wk ?_
   exact ⟨⟨i + 1, by omega, he, rfl, rfl⟩, hdec _ _ _ _⟩
  ·rw [if_neg h0] at he
   rw [he] at c h0
   exact Av.W
 ·obtain rfl : i = l.length := by omega
  rw [List.drop_length] at he
  obtain rfl : 0 = res := he
  clear hres hr ho
  exact Av.W
def sizeO (o : OpP) : Nat := 3 + o.2.1.length + if o.1 = 1 then 2 + o.2.2.length else 0
def sizeL : List OpP → Nat
 | [] => 0
 | o :: l => sizeO o + sizeL l
theorem sizeO_le {o : OpP} (h : o.2.1.length ≤ 1000000 ∧ o.2.2.length ≤ 1000000) : sizeO o ≤ 2000005 := by
 unfold sizeO
 split <;> omega
theorem sizeL_le : ∀ {l : List OpP}, (∀ o ∈ l, o.2.1.length ≤ 1000000 ∧ o.2.2.length ≤ 1000000) → sizeL l ≤ l.length * 2000005
 | [], _ => by simp [sizeL]
 | o :: l, h => by
  have h1 := sizeO_le (h o List.mem_cons_self)
  have h2 := sizeL_le (l := l) fun x hx => h x (List.mem_cons_of_mem _ hx)
  simp only [sizeL, List.length_cons]; omega
theorem bsize_ok (l : List OpP) (hl : Sized l) (res : Nat) (hres : 5 + sizeL l = res) : SP 155 [.vs l.length (opC l)] (Z res) := by
 obtain ⟨hl, ho⟩ := hl
 have hz := sizeL_le ho
 refine S_ Tryz.func155 (by kernel_rfl) rfl (Nat.le_of_ble_eq_true rfl) ?_
 show avc Tryz.prog SP _ _ _ _ _ _
 dsimp only [avc, startS, Array.toList, Tryz.f155]
 refine Av.Wk ?_
 refine ⟨[8, 6, 7, 3], [], fun vs bl => ∃ (i s : Nat), i ≤ l.length ∧ s + sizeL (l.drop i) = res ∧ (vs = [Z i, .vs l.length (opC l), Z l.length, Z s] ∧ bl = []), muI l.length, ?_, ?_⟩
 ·exact ⟨0, 5, by omega, by rw [List.drop_zero]; exact hres, rfl, rfl⟩
 rintro vs bl ⟨i, s, hi, he, rfl, rfl⟩
 by_cases hlt : i < l.length
 ·have hw := opW hlt
  have hb := ho _ (List.getElem_mem hlt)
  have hdec := mu_I hlt
  have e : sizeL (l.drop i) = sizeO l[i] + sizeL (l.drop (i + 1)) := by rw [List.drop_eq_getElem_cons hlt]; rfl
  rw [e] at he
  generalize l[i] = o at hw he hb
  obtain ⟨n, a, v⟩ := o
  have sa := bs_size a
  have sv := bs_size v
  have hb : a.length ≤ 1000000 ∧ v.length ≤ 1000000 := hb
  simp only at hw
  clear ho
  by_cases h1 : n = 1
  ·subst h1
   have e : sizeO (1, a, v) = 3 + a.length + (2 + v.length) := rfl
   rw [e] at he
   refine Av.Wk ?_
   refine ⟨⟨i + 1, s + (3 + a.length) + (2 + v.length), by omega, by omega, ?_, rfl⟩, hdec _ _ _ _⟩
   show [Z ((i : Int) + 1), _, _, Z ((s : Int) + (3 + ((bs a).size : Int)) + (2 + ((bs v).size : Int)))] = _
   rw [sa, sv]; rfl
  ·have e : sizeO (n, a, v) = 3 + a.length := by unfold sizeO; rw [if_neg h1]; rfl
   rw [e] at he
   have g1 : ¬ (n : Int) = 1 := by omega
   refine Av.Wk ?_
   refine ⟨⟨i + 1, s + (3 + a.length), by omega, by omega, ?_, rfl⟩, hdec _ _ _ _⟩
   show [Z ((i : Int) + 1), _, _, Z ((s : Int) + (3 + ((bs a).size : Int)))] = _
   rw [sa]; rfl
 ·obtain rfl : i = l.length := by omega
  rw [List.drop_length] at he
  have he : s = res := he
  subst he
  clear hres ho
  exact Av.W
def layB (o : OpP) : List UInt8 := [UInt8.ofNat o.1] ++ Quill.rowB o.2.1 ++ if o.1 = 1 then Quill.rowB o.2.2 else []
theorem layB_len (o : OpP) : (layB o).length = sizeO o := by
 unfold layB sizeO
 split <;> simp [Quill.rowB_length] <;> omega
def laysB : List OpP → List UInt8
 | [] => []
 | o :: l => layB o ++ laysB l
theorem laysB_len : ∀ l : List OpP, (laysB l).length = sizeL l
 | [] => rfl
 | o :: l => by simp only [laysB, List.length_append, layB_len, laysB_len l, sizeL]
def bodyB (l : List OpP) : List UInt8 := UInt8.ofNat l.length :: laysB l
theorem hs8 : sizeT Tryz.prog 5 = 1 := by kernel_rfl
abbrev rowB8 (l : List UInt8) : ABlk := ⟨bytesA l, some 5, true, true⟩
theorem room_8 {k : Nat} (hk : k ≤ 1000000000000) : room k (bytesT Tryz.prog 5) := by
 rw [show bytesT Tryz.prog 5 = 1 by kernel_rfl]; unfold room; omega
theorem kind_byte {n : Nat} (h1 : 1 ≤ n) (h3 : n ≤ 3) : AV.ex (.int .u8 (n : Int)) = byteA (UInt8.ofNat n) := by
 show _ = AV.ex (.int .u8 (((UInt8.ofNat n).toNat : Nat) : Int))
 rw [UInt8.toNat_ofNat_of_lt' (by show n < 256; omega)]
theorem blay_ok (o : OpP) (l : List UInt8) (h1 : 1 ≤ o.1) (h3 : o.1 ≤ 3) (ha : o.2.1.length ≤ 65535) (hv : o.2.2.length ≤ 65535) (hl : l.length ≤ 1000000) :
  SM 156 [opA o, .sl 0 l.length] [rowB8 l] [] (.sl 0 (l ++ layB o).length) [rowB8 (l ++ layB o)] := by
 obtain ⟨n, a, v⟩ := o
 have hk := kind_byte h1 h3
 have ha : a.length ≤ 65535 := ha
 have hv : v.length ≤ 65535 := hv
 have e1 : bytesA l ++ [AV.ex (.int .u8 (n : Int))] = bytesA (l ++ [UInt8.ofNat n]) := by
  show bytesA l ++ [AV.ex (.int .u8 (n : Int))] = _
  rw [hk]; simp [bytesA]
 have hb : (bytesA l).length = l.length * sizeT Tryz.prog 5 := by rw [hs8, bytesA_length]; omega
 have hc : ([AV.ex (.int .u8 (n : Int))] : List AV).length = 1 * sizeT Tryz.prog 5 ∧ ∀ u ∈ ([AV.ex (.int .u8 (n : Int))] : List AV), one1 u = true := by
  rw [hs8]; exact ⟨rfl, fun u hu => by rw [List.mem_singleton] at hu; subst hu; rfl⟩
 have c1 : SP 162 [.vs (l.length + 1) (bytesA l ++ [AV.ex (.int .u8 (n : Int))]), T a] (.tup [.own 5 ((l ++ [UInt8.ofNat n]) ++ Quill.rowB a).length (bytesA ((l ++ [UInt8.ofNat n]) ++ Quill.rowB a)), Z 0]) := by
  have := rowk_snd (l ++ [UInt8.ofNat n]) a (by simp; omega) ha
  rwa [← e1, show (l ++ [UInt8.ofNat n]).length = l.length + 1 by simp] at this
 have c2 := rowk_snd ((l ++ [UInt8.ofNat n]) ++ Quill.rowB a) v (by simp [Quill.rowB_length]; omega) hv
 by_cases k1 : n = 1
 ·have e : l ++ layB (n, a, v) = (l ++ [UInt8.ofNat n]) ++ Quill.rowB a ++ Quill.rowB v := by
   unfold layB; rw [if_pos k1]; simp only [List.append_assoc]
  rw [e]
  generalize (l ++ [UInt8.ofNat n]) ++ Quill.rowB a ++ Quill.rowB v = X at c2
  generalize (l ++ [UInt8.ofNat n]) ++ Quill.rowB a = Y at c1 c2
  clear e1 hk e
  subst k1
  refine SM_ Tryz.func156 (by kernel_rfl) rfl (Nat.le_of_ble_eq_true rfl) (Nat.zero_le _) ?_
  show avc Tryz.prog SP _ _ _ _ _ _
  dsimp only [avc, startS, Array.toList, Tryz.f156]
  repeat' ((try conv => whnf) <;> first | refine Av.Va ?_ | (refine ⟨true, ?_⟩) | (refine And.intro ⟨room_8 (by omega), hb, hc⟩ ?_) | refine ⟨_, c1, ?_⟩ | refine ⟨_, c2, ?_⟩ | refine ⟨[], [0,0,2,6,15,0,32,127,255,511,511,1023,4095], Av.len_ok rfl (by kernel_rfl), ?_⟩ | exact True.intro | refine Av.Vb ?_ | exact ⟨rfl, rfl, rfl⟩ | exact ⟨rfl, rfl⟩ | (refine Av.Vc ?_ ?_ <;> intro hBr <;> first | (exfalso; omega) | (exfalso; contradiction) | (exfalso; exact hBr rfl) | skip) | refine Av.Vd ?_ | exact rfl)
 ·have e : l ++ layB (n, a, v) = (l ++ [UInt8.ofNat n]) ++ Quill.rowB a := by
   unfold layB; rw [if_neg k1]; simp only [List.append_assoc, List.append_nil]
  rw [e]
  generalize (l ++ [UInt8.ofNat n]) ++ Quill.rowB a = Y at c1 c2
  have g1 : ¬ (n : Int) = 1 := by omega
  clear e1 hk e c2
  refine SM_ Tryz.func156 (by kernel_rfl) rfl (Nat.le_of_ble_eq_true rfl) (Nat.zero_le _) ?_
  show avc Tryz.prog SP _ _ _ _ _ _
  dsimp only [avc, startS, Array.toList, Tryz.f156]
  repeat' ((try conv => whnf) <;> first | refine Av.Va ?_ | (refine ⟨true, ?_⟩) | (refine And.intro ⟨room_8 (by omega), hb, hc⟩ ?_) | refine ⟨_, c1, ?_⟩ | refine ⟨[], [0,0,2,6,15,0,32,127,255,511,511,1023,4095], Av.len_ok rfl (by kernel_rfl), ?_⟩ | exact True.intro | refine Av.Vb ?_ | exact ⟨rfl, rfl, rfl⟩ | exact ⟨rfl, rfl⟩ | (refine Av.Vc ?_ ?_ <;> intro hBr <;> first | (exfalso; omega) | (exfalso; contradiction) | (exfalso; exact hBr rfl) | skip) | refine Av.Vd ?_ | exact rfl)
theorem laysB_app (l m : List OpP) : laysB (l ++ m) = laysB l ++ laysB m := by
 induction l with
 | nil => rfl
 | cons o l ih => simp only [List.cons_append, laysB, ih, List.append_assoc]
def encOps (l : List OpP) : List UInt8 × Int := if checkL l ≠ 0 then ([], checkL l) else if 1400 < 5 + sizeL l then ([], 7) else (Crc.sealed (bodyB l), 0)
theorem firstE_zero : ∀ {l : List OpP}, firstE l = 0 → ∀ o ∈ l, checkP o = 0
 | o :: l, h, x, hx => by
  unfold firstE at h
  by_cases h0 : checkP o = 0
  ·rw [if_pos h0] at h
   rcases List.mem_cons.1 hx with rfl | hx
   ·exact h0
   ·exact firstE_zero h x hx
  ·rw [if_neg h0] at h; exact absurd h h0
theorem checkP_zero {o : OpP} (h : checkP o = 0) : 1 ≤ o.1 ∧ o.1 ≤ 3 ∧ o.2.1.length ≤ 100 ∧ o.2.2.length ≤ 900 ∧ (o.1 < 3 → o.2.1 ≠ []) ∧ (1 < o.1 → o.2.2 = []) := by
 unfold checkP at h
 by_cases h1 : o.1 < 1 ∨ 3 < o.1
 ·rw [if_pos h1] at h; exact absurd h (by decide)
 rw [if_neg h1] at h
 by_cases h2 : 100 < o.2.1.length ∨ 900 < o.2.2.length
 ·rw [if_pos h2] at h; exact absurd h (by decide)
 rw [if_neg h2] at h
 by_cases h3 : (o.1 < 3 ∧ o.2.1 = []) ∨ (1 < o.1 ∧ o.2.2 ≠ [])
 ·rw [if_pos h3] at h; exact absurd h (by decide)
 exact ⟨by omega, by omega, by omega, by omega, fun k e => h3 (.inl ⟨k, e⟩), fun k => by
  apply Classical.byContradiction; intro e; exact h3 (.inr ⟨k, e⟩)⟩
theorem checkL_zero {l : List OpP} (h : checkL l = 0) : l.length ≤ 40 ∧ ∀ o ∈ l, checkP o = 0 := by
 unfold checkL at h
 by_cases h1 : 40 < l.length
 ·rw [if_pos h1] at h; exact absurd h (by decide)
 rw [if_neg h1] at h
 exact ⟨by omega, firstE_zero h⟩
theorem encode_ok (l : List OpP) (hl : Sized l) : SP 103 [.vs l.length (opC l)] (.tup [T (encOps l).1, Z (encOps l).2]) := by
 have c1 := check_ok l hl _ rfl
 have c2 := bsize_ok l hl _ rfl
 obtain ⟨hl, ho⟩ := hl
 by_cases h0 : checkL l ≠ 0
 ·rw [show encOps l = ([], checkL l) from if_pos h0]
  generalize checkL l = e at c1 h0
  refine S_ Tryz.func103 (by kernel_rfl) rfl (Nat.le_of_ble_eq_true rfl) ?_
  show avc Tryz.prog SP _ _ _ _ _ _
  dsimp only [avc, startS, Array.toList, Tryz.f103]
  exact Av.W
 have h0 : checkL l = 0 := by simpa using h0
 rw [h0] at c1
 by_cases h1 : 1400 < 5 + sizeL l
 ·rw [show encOps l = ([], 7) from (if_neg (by rw [h0]; simp)).trans (if_pos h1)]
  generalize 5 + sizeL l = z at c2 h1
  refine S_ Tryz.func103 (by kernel_rfl) rfl (Nat.le_of_ble_eq_true rfl) ?_
  show avc Tryz.prog SP _ _ _ _ _ _
  dsimp only [avc, startS, Array.toList, Tryz.f103]
  exact Av.W
 rw [show encOps l = (Crc.sealed (bodyB l), 0) from (if_neg (by rw [h0]; simp)).trans (if_neg h1)]
 obtain ⟨hn, hz⟩ := checkL_zero h0
 have hlb := laysB_len l
 have c3 := crcseal_ok (bodyB l) (by show (laysB l).length + 1 ≤ _; omega)
 have hst : ∀ i (h : i < l.length), SM 156 [opA l[i], .sl 0 (UInt8.ofNat l.length :: laysB (l.take i)).length] [rowB8 (UInt8.ofNat l.length :: laysB (l.take i))] [] (.sl 0 (UInt8.ofNat l.length :: laysB (l.take (i + 1))).length) [rowB8 (UInt8.ofNat l.length :: laysB (l.take (i + 1)))] := fun i h => by
  obtain ⟨q1, q2, q3, q4, _⟩ := checkP_zero (hz _ (List.getElem_mem h))
  have hle : (laysB (l.take i)).length ≤ (laysB l).length := by
   have := laysB_app (l.take i) (l.drop i)
   rw [List.take_append_drop] at this
   rw [this, List.length_append]; omega
  have := blay_ok l[i] (UInt8.ofNat l.length :: laysB (l.take i)) q1 q2 (by omega) (by omega) (by rw [List.length_cons]; omega)
  rwa [show (UInt8.ofNat l.length :: laysB (l.take i)) ++ layB l[i] = UInt8.ofNat l.length :: laysB (l.take (i + 1)) by
   rw [List.take_add_one, List.getElem?_eq_getElem h, laysB_app]; simp [laysB]] at this
 have hb0 : AV.ex (.int .u8 (l.length : Int)) = byteA (UInt8.ofNat l.length) := by
  show _ = AV.ex (.int .u8 (((UInt8.ofNat l.length).toNat : Nat) : Int))
  rw [UInt8.toNat_ofNat_of_lt' (by show l.length < 256; omega)]
 have hst0 : ([.ex (.int .u8 (l.length : Int))] : List AV) = bytesA (UInt8.ofNat l.length :: laysB (l.take 0)) := by rw [hb0]; rfl
 have hln0 : (1 : Nat) = (UInt8.ofNat l.length :: laysB (l.take 0)).length := rfl
 have hfin : UInt8.ofNat l.length :: laysB (l.take l.length) = bodyB l := by rw [List.take_length]; rfl
 generalize bodyB l = X at c3 hfin
 generalize 5 + sizeL l = z at c2 h1
 obtain ⟨Y, hY⟩ : ∃ Y : Nat → List UInt8, Y = fun i => UInt8.ofNat l.length :: laysB (l.take i) := ⟨_, rfl⟩
 have hst : ∀ i (h : i < l.length), SM 156 [opA l[i], .sl 0 (Y i).length] [rowB8 (Y i)] [] (.sl 0 (Y (i + 1)).length) [rowB8 (Y (i + 1))] := by rw [hY]; exact hst
 have hst0 : ([.ex (.int .u8 (l.length : Int))] : List AV) = bytesA (Y 0) := by rw [hY]; exact hst0
 have hln0 : (1 : Nat) = (Y 0).length := by rw [hY]; rfl
 have hfin : Y l.length = X := by rw [hY]; exact hfin
 clear hY hlb hb0 hz ho h0
 refine S_ Tryz.func103 (by kernel_rfl) rfl (Nat.le_of_ble_eq_true rfl) ?_
 show avc Tryz.prog SP _ _ _ _ _ _
 dsimp only [avc, startS, Array.toList, Tryz.f103]
 refine Av.Wk ?_
 refine ⟨[22, 20, 21, 5], [], fun vs bl => ∃ i : Nat, i ≤ l.length ∧ (vs = [Z i, .vs l.length (opC l), Z l.length, .sl 0 (Y i).length] ∧ bl = [rowB8 (Y i)]), muI l.length, ?_, ?_⟩
 ·refine ⟨0, by omega, ?_, ?_⟩
  ·rw [← hln0]; rfl
  ·show _ = [(⟨bytesA (Y 0), some 5, true, true⟩ : ABlk)]
   rw [← hst0]
 clear hst0 hln0
 rintro vs bl ⟨i, hi, rfl, rfl⟩
 by_cases hlt : i < l.length
 ·have hw := opW hlt
  have hdec := mu_I hlt
  have c := hst i hlt
  generalize l[i] = o at hw c
  clear hst hfin c1 c2 c3
  repeat' ((try conv => whnf) <;> first | refine Av.Va ?_ | (refine ⟨_, hw, ?_⟩) | refine ⟨_, _, _, c, ?_⟩ | exact True.intro | refine Av.Vb ?_ | exact ⟨rfl, rfl, rfl⟩ | exact ⟨rfl, rfl⟩ | (refine Av.Vc ?_ ?_ <;> intro hBr <;> first | (exfalso; omega) | (exfalso; contradiction) | (exfalso; exact hBr rfl) | skip) | refine Av.Vd ?_ | exact rfl)
  exact ⟨⟨i + 1, by omega, rfl, rfl⟩, hdec _ _ _ _⟩
 ·obtain rfl : i = l.length := by omega
  rw [hfin]
  clear hst
  repeat' ((try conv => whnf) <;> first | refine Av.Va ?_ | (refine ⟨X, ⟨rfl, rfl⟩, ?_⟩) | refine ⟨_, c3, ?_⟩ | exact True.intro | refine Av.Vb ?_ | exact ⟨rfl, rfl, rfl⟩ | exact ⟨rfl, rfl⟩ | (refine Av.Vc ?_ ?_ <;> intro hBr <;> first | (exfalso; omega) | (exfalso; contradiction) | (exfalso; exact hBr rfl) | skip) | refine Av.Vd ?_ | exact rfl)
end Go.Proofs.YtbaedepmogkkeaaGreat.Av
namespace Go.Proofs.YtbaedepmogkkeaaGreat.Av
set_option maxHeartbeats 1000000
open Go Go.RowKit
set_option linter.unusedVariables false
set_option linter.unusedSimpArgs false
set_option maxRecDepth 100000
theorem hs1 : sizeT Tryz.prog 9 = 1 := by kernel_rfl
end Go.Proofs.YtbaedepmogkkeaaGreat.Av
namespace Go.Proofs.YtbaedepmogkkeaaGreat.Av
open Go Go.RowKit Tre
set_option linter.unusedVariables false
set_option linter.unusedSimpArgs false
set_option maxRecDepth 100000
def scanP (s : Quill.Sc) : OpP × Quill.Sc :=
 if (s.num 1).2.bad ≠ 0 then ((0, [], []), (s.num 1).2)
 else if (s.num 1).1 < 1 ∨ 3 < (s.num 1).1 then (((s.num 1).1, [], []), ⟨s.text, (s.num 1).2.pos, 22⟩)
 else if (s.num 1).1 = 1 then
  if ((s.num 1).2.row).2.row.2.bad = 0 then (((s.num 1).1, (s.num 1).2.row.1, (s.num 1).2.row.2.row.1), ⟨s.text, (s.num 1).2.row.2.row.2.pos, checkP ((s.num 1).1, (s.num 1).2.row.1, (s.num 1).2.row.2.row.1)⟩)
  else (((s.num 1).1, (s.num 1).2.row.1, (s.num 1).2.row.2.row.1), (s.num 1).2.row.2.row.2)
 else
  if (s.num 1).2.row.2.bad = 0 then (((s.num 1).1, (s.num 1).2.row.1, []), ⟨s.text, (s.num 1).2.row.2.pos, checkP ((s.num 1).1, (s.num 1).2.row.1, [])⟩)
  else (((s.num 1).1, (s.num 1).2.row.1, []), (s.num 1).2.row.2)
def scanN : Nat → Quill.Sc → List OpP × Quill.Sc
 | 0, s => ([], s)
 | n + 1, s => if (scanP s).2.bad ≠ 0 then ([], (scanP s).2) else ((scanP s).1 :: (scanN n (scanP s).2).1, (scanN n (scanP s).2).2)
def decOps (s : List UInt8) : List OpP × Int :=
 if (Crc.opened s).2 ≠ 0 then ([], (Crc.opened s).2)
 else if 40 < (Quill.Sc.num ⟨(Crc.opened s).1, 0, 0⟩ 1).1 then ([], 24)
 else if (scanN (Quill.Sc.num ⟨(Crc.opened s).1, 0, 0⟩ 1).1 (Quill.Sc.num ⟨(Crc.opened s).1, 0, 0⟩ 1).2).2.fin ≠ 0 then ([], (scanN (Quill.Sc.num ⟨(Crc.opened s).1, 0, 0⟩ 1).1 (Quill.Sc.num ⟨(Crc.opened s).1, 0, 0⟩ 1).2).2.fin)
 else if 1400 < s.length then ([], 7)
 else ((scanN (Quill.Sc.num ⟨(Crc.opened s).1, 0, 0⟩ 1).1 (Quill.Sc.num ⟨(Crc.opened s).1, 0, 0⟩ 1).2).1, 0)
theorem tell_one (b : UInt8) : Quill.tell [b] = b.toNat := by rw [Quill.tell_cons, Quill.tell_nil]; simp
theorem scan_there (t a r : List UInt8) (o : OpP) (h0 : checkP o = 0) (ht : t = a ++ layB o ++ r) : scanP ⟨t, (a.length : Int), 0⟩ = (o, ⟨t, ((a.length + sizeO o : Nat) : Int), 0⟩) := by
 obtain ⟨h1, h3, hk, hv, _, hz⟩ := checkP_zero h0
 obtain ⟨n, k, v⟩ := o
 have h1 : 1 ≤ n := h1
 have h3 : n ≤ 3 := h3
 have hk : k.length ≤ 100 := hk
 have hv : v.length ≤ 900 := hv
 have hz : 1 < n → v = [] := hz
 have e1 : layB (n, k, v) = [UInt8.ofNat n] ++ (Quill.rowB k ++ if n = 1 then Quill.rowB v else []) := by unfold layB; simp only [List.append_assoc]
 have hn := Quill.num_there t a [UInt8.ofNat n] ((Quill.rowB k ++ if n = 1 then Quill.rowB v else []) ++ r) 1 (by rw [ht, e1]; simp only [List.append_assoc]) rfl (by omega) (by omega)
 rw [tell_one, UInt8.toNat_ofNat_of_lt' (by show n < 256; omega)] at hn
 have hn : Quill.Sc.num ⟨t, (a.length : Int), 0⟩ 1 = (n, ⟨t, ((a.length + 1 : Nat) : Int), 0⟩) := hn
 have hr := Quill.row_there t (a ++ [UInt8.ofNat n]) k ((if n = 1 then Quill.rowB v else []) ++ r) (by rw [ht, e1]; simp only [List.append_assoc]) (by omega)
 rw [show (a ++ [UInt8.ofNat n]).length = a.length + 1 by simp] at hr
 unfold scanP
 rw [hn, if_neg (by simp), if_neg (by simp only; omega)]
 simp only
 rw [hr]
 by_cases k1 : n = 1
 ·rw [if_pos k1]
  have hr2 := Quill.row_there t (a ++ [UInt8.ofNat n] ++ Quill.rowB k) v r (by rw [ht, e1, if_pos k1]; simp only [List.append_assoc]) (by omega)
  rw [show (a ++ [UInt8.ofNat n] ++ Quill.rowB k).length = a.length + 1 + (2 + k.length) by simp [Quill.rowB_length]; omega] at hr2
  simp only
  rw [hr2, if_pos rfl, h0]
  unfold sizeO
  rw [if_pos k1]
  simp only
  congr 3
  omega
 ·rw [if_neg k1, if_pos rfl]
  have := hz (by omega)
  subst this
  rw [h0]
  unfold sizeO
  rw [if_neg k1]
  simp only
  congr 3
  omega
theorem scanN_there (t r : List UInt8) : ∀ (l : List OpP) (a : List UInt8), (∀ o ∈ l, checkP o = 0) → t = a ++ laysB l ++ r → scanN l.length ⟨t, (a.length : Int), 0⟩ = (l, ⟨t, ((a.length + sizeL l : Nat) : Int), 0⟩)
 | [], a, _, _ => rfl
 | o :: l, a, h, ht => by
  have h1 := scan_there t a (laysB l ++ r) o (h o List.mem_cons_self) (by rw [ht]; simp only [laysB, List.append_assoc])
  have h2 := scanN_there t r l (a ++ layB o) (fun x hx => h x (List.mem_cons_of_mem _ hx)) (by rw [ht]; simp only [laysB, List.append_assoc])
  rw [List.length_append, layB_len] at h2
  show (if (scanP ⟨t, (a.length : Int), 0⟩).2.bad ≠ 0 then _ else _) = _
  rw [h1, if_neg (by simp)]
  simp only
  rw [h2]
  simp only [sizeL]
  rw [Nat.add_assoc]
theorem fin_zero (t : List UInt8) : Quill.Sc.fin ⟨t, (t.length : Int), 0⟩ = 0 := by
 unfold Quill.Sc.fin
 rw [if_neg (by simp), if_neg (by simp [Quill.Sc.stands]), if_neg (by simp)]
theorem dec_enc {l : List OpP} (h : (encOps l).2 = 0) : decOps (encOps l).1 = (l, 0) ∧ (encOps l).1.length = 5 + sizeL l ∧ 5 + sizeL l ≤ 1400 ∧ checkL l = 0 := by
 unfold encOps at h ⊢
 by_cases h0 : checkL l ≠ 0
 ·rw [if_pos h0] at h; exact absurd h h0
 rw [if_neg h0] at h ⊢
 by_cases h1 : 1400 < 5 + sizeL l
 ·rw [if_pos h1] at h; exact absurd h (by decide)
 rw [if_neg h1]
 have h0 : checkL l = 0 := by simpa using h0
 obtain ⟨hn, hz⟩ := checkL_zero h0
 have hb : (bodyB l).length = 1 + sizeL l := by show (laysB l).length + 1 = _; rw [laysB_len]; omega
 have hlen : (Crc.sealed (bodyB l)).length = 5 + sizeL l := by rw [Crc.sealed_length, hb]; omega
 refine ⟨?_, hlen, by omega, h0⟩
 have hnum := Quill.num_there (bodyB l) [] [UInt8.ofNat l.length] (laysB l) 1 rfl rfl (by omega) (by omega)
 rw [tell_one, UInt8.toNat_ofNat_of_lt' (by show l.length < 256; omega)] at hnum
 have hnum : Quill.Sc.num ⟨bodyB l, 0, 0⟩ 1 = (l.length, ⟨bodyB l, 1, 0⟩) := hnum
 have hsc := scanN_there (bodyB l) [] l [UInt8.ofNat l.length] hz (by simp [bodyB])
 have hsc : scanN l.length ⟨bodyB l, 1, 0⟩ = (l, ⟨bodyB l, ((1 + sizeL l : Nat) : Int), 0⟩) := hsc
 have hf := fin_zero (bodyB l)
 rw [hb] at hf
 unfold decOps
 rw [Crc.opened_sealed]
 simp only
 rw [if_neg (by simp), hnum]
 simp only
 rw [if_neg (by omega), hsc]
 simp only
 rw [hf, if_neg (by simp), if_neg (by omega)]
theorem num_back (t : List UInt8) (p z : Nat) (h1 : 1 ≤ z) (h8 : z ≤ 8) (h : (Quill.Sc.num ⟨t, (p : Int), 0⟩ (z : Int)).2.bad = 0) :
  p + z ≤ t.length ∧ Quill.Sc.num ⟨t, (p : Int), 0⟩ (z : Int) = (Quill.tell ((t.drop p).take z), ⟨t, ((p + z : Nat) : Int), 0⟩) := by
 unfold Quill.Sc.num at h ⊢
 rw [if_neg (by simp)] at h ⊢
 by_cases h2 : Quill.Sc.stands ⟨t, (p : Int), 0⟩ = false ∨ (z : Int) < 1 ∨ 8 < (z : Int)
 ·rw [if_pos h2] at h; simp [Quill.Sc.fails] at h
 rw [if_neg h2] at h ⊢
 by_cases h3 : (t.length : Int) - (p : Int) < (z : Int)
 ·rw [if_pos h3] at h; simp [Quill.Sc.fails] at h
 rw [if_neg h3]
 exact ⟨by omega, by simp only [Int.toNat_natCast]; rw [Int.natCast_add]⟩
theorem row_back (t : List UInt8) (p : Nat) (h : (Quill.Sc.row ⟨t, (p : Int), 0⟩).2.bad = 0) :
  ∃ r, p + (2 + r.length) ≤ t.length ∧ t.drop p = Quill.rowB r ++ t.drop (p + (2 + r.length)) ∧ Quill.Sc.row ⟨t, (p : Int), 0⟩ = (r, ⟨t, ((p + (2 + r.length) : Nat) : Int), 0⟩) := by
 unfold Quill.Sc.row at h ⊢
 by_cases hb : (Quill.Sc.num ⟨t, (p : Int), 0⟩ 2).2.bad ≠ 0
 ·rw [if_pos hb] at h; exact absurd h hb
 rw [if_neg hb] at h ⊢
 obtain ⟨hl, hn⟩ := num_back t p 2 (by omega) (by omega) (by simpa using hb)
 have hn : Quill.Sc.num ⟨t, (p : Int), 0⟩ 2 = (Quill.tell ((t.drop p).take 2), ⟨t, ((p + 2 : Nat) : Int), 0⟩) := hn
 rw [hn] at h ⊢
 simp only at h ⊢
 obtain ⟨n, hnd⟩ : ∃ n, n = Quill.tell ((t.drop p).take 2) := ⟨_, rfl⟩
 rw [← hnd] at h ⊢
 by_cases h3 : (t.length : Int) - ((p + 2 : Nat) : Int) < (n : Int)
 ·rw [if_pos h3] at h; simp [Quill.Sc.fails] at h
 rw [if_neg h3]
 have hd : ((t.drop (p + 2)).take n).length = n := by rw [List.length_take, List.length_drop]; omega
 refine ⟨(t.drop (p + 2)).take n, by rw [hd]; omega, ?_, ?_⟩
 ·have h2 : ((t.drop p).take 2).length = 2 := by rw [List.length_take, List.length_drop]; omega
  have e := Quill.numB_tell ((t.drop p).take 2)
  rw [h2, ← hnd] at e
  rw [Quill.rowB, hd, e]
  conv => lhs; rw [← List.take_append_drop 2 (t.drop p), List.drop_drop, ← List.take_append_drop n (t.drop (p + 2)), List.drop_drop]
  rw [List.append_assoc, Nat.add_assoc]
 ·rw [hd, Int.toNat_natCast]
  congr 3
  omega
theorem scan_back (t : List UInt8) (p : Nat) (h : (scanP ⟨t, (p : Int), 0⟩).2.bad = 0) :
  ∃ o, checkP o = 0 ∧ p + sizeO o ≤ t.length ∧ t.drop p = layB o ++ t.drop (p + sizeO o) ∧ scanP ⟨t, (p : Int), 0⟩ = (o, ⟨t, ((p + sizeO o : Nat) : Int), 0⟩) := by
 unfold scanP at h ⊢
 by_cases hb : (Quill.Sc.num ⟨t, (p : Int), 0⟩ 1).2.bad ≠ 0
 ·rw [if_pos hb] at h; exact absurd h hb
 rw [if_neg hb] at h ⊢
 obtain ⟨hl, hn⟩ := num_back t p 1 (by omega) (by omega) (by simpa using hb)
 have hn : Quill.Sc.num ⟨t, (p : Int), 0⟩ 1 = (Quill.tell ((t.drop p).take 1), ⟨t, ((p + 1 : Nat) : Int), 0⟩) := hn
 have hd1 : (t.drop p).take 1 = [t[p]] := by rw [List.drop_eq_getElem_cons (by omega)]; rfl
 rw [hd1, tell_one] at hn
 obtain ⟨b, hbd⟩ : ∃ b, b = t[p] := ⟨_, rfl⟩
 have e0 : t.drop p = [b] ++ t.drop (p + 1) := by rw [hbd, List.drop_eq_getElem_cons (by omega)]; rfl
 rw [← hbd] at hn
 rw [hn] at h ⊢
 simp only at h ⊢
 by_cases hk : b.toNat < 1 ∨ 3 < b.toNat
 ·rw [if_pos hk] at h; exact absurd (show (22 : Int) = 0 from h) (by decide)
 rw [if_neg hk] at h ⊢
 have ebb : UInt8.ofNat b.toNat = b := UInt8.ofNat_toNat
 by_cases k1 : b.toNat = 1
 ·rw [if_pos k1] at h ⊢
  have hb2 : (Quill.Sc.row ⟨t, ((p + 1 : Nat) : Int), 0⟩).2.row.2.bad = 0 := by
   by_cases q : (Quill.Sc.row ⟨t, ((p + 1 : Nat) : Int), 0⟩).2.row.2.bad = 0
   ·exact q
   ·rw [if_neg q] at h; exact h
  rw [if_pos hb2] at h ⊢
  have hb1 : (Quill.Sc.row ⟨t, ((p + 1 : Nat) : Int), 0⟩).2.bad = 0 := by
   apply Classical.byContradiction
   intro q
   have e1 : ∀ s : Quill.Sc, s.bad ≠ 0 → s.row.2.bad ≠ 0 := fun s hs => by
    have e2 : s.num 2 = (0, s) := by unfold Quill.Sc.num; rw [if_pos hs]
    unfold Quill.Sc.row
    rw [e2, if_pos hs]; exact hs
   exact e1 _ q hb2
  obtain ⟨k, l1, d1, r1⟩ := row_back t (p + 1) hb1
  rw [r1] at hb2 h ⊢
  simp only at hb2 h ⊢
  obtain ⟨v, l2, d2, r2⟩ := row_back t (p + 1 + (2 + k.length)) hb2
  rw [r2] at h ⊢
  simp only at h ⊢
  have hs : sizeO (b.toNat, k, v) = 1 + (2 + k.length) + (2 + v.length) := by unfold sizeO; rw [if_pos k1]; simp only; omega
  refine ⟨(b.toNat, k, v), h, by rw [hs]; omega, ?_, ?_⟩
  ·unfold layB
   rw [if_pos k1, hs, e0, d1, d2, ebb]
   simp only [List.append_assoc]
   congr 4
   omega
  ·rw [hs, h]
   congr 3
   omega
 ·rw [if_neg k1] at h ⊢
  have hb1 : (Quill.Sc.row ⟨t, ((p + 1 : Nat) : Int), 0⟩).2.bad = 0 := by
   by_cases q : (Quill.Sc.row ⟨t, ((p + 1 : Nat) : Int), 0⟩).2.bad = 0
   ·exact q
   ·rw [if_neg q] at h; exact h
  rw [if_pos hb1] at h ⊢
  obtain ⟨k, l1, d1, r1⟩ := row_back t (p + 1) hb1
  rw [r1] at h ⊢
  simp only at h ⊢
  have hs : sizeO (b.toNat, k, []) = 1 + (2 + k.length) := by unfold sizeO; rw [if_neg k1]; simp only; omega
  refine ⟨(b.toNat, k, []), h, by rw [hs]; omega, ?_, ?_⟩
  ·unfold layB
   rw [if_neg k1, hs, e0, d1, ebb]
   simp only [List.append_assoc, List.append_nil, List.nil_append]
   congr 3
   omega
  ·rw [hs, h]
   congr 3
   omega
theorem scanN_back (t : List UInt8) : ∀ (n p : Nat), (scanN n ⟨t, (p : Int), 0⟩).2.bad = 0 →
  ∃ L, L.length = n ∧ (∀ o ∈ L, checkP o = 0) ∧ t.drop p = laysB L ++ t.drop (p + sizeL L) ∧ scanN n ⟨t, (p : Int), 0⟩ = (L, ⟨t, ((p + sizeL L : Nat) : Int), 0⟩)
 | 0, p, _ => ⟨[], rfl, (fun o h => by cases h), rfl, rfl⟩
 | n + 1, p, h => by
  have e : scanN (n + 1) ⟨t, (p : Int), 0⟩ = if (scanP ⟨t, (p : Int), 0⟩).2.bad ≠ 0 then ([], (scanP ⟨t, (p : Int), 0⟩).2) else ((scanP ⟨t, (p : Int), 0⟩).1 :: (scanN n (scanP ⟨t, (p : Int), 0⟩).2).1, (scanN n (scanP ⟨t, (p : Int), 0⟩).2).2) := rfl
  rw [e] at h ⊢
  by_cases hb : (scanP ⟨t, (p : Int), 0⟩).2.bad ≠ 0
  ·rw [if_pos hb] at h; exact absurd h hb
  rw [if_neg hb] at h ⊢
  obtain ⟨o, ho, hl, hd, hs⟩ := scan_back t p (by simpa using hb)
  rw [hs] at h ⊢
  simp only at h ⊢
  obtain ⟨L, h1, h2, h3, h4⟩ := scanN_back t n (p + sizeO o) h
  refine ⟨o :: L, by rw [List.length_cons, h1], fun x hx => ?_, ?_, ?_⟩
  ·rcases List.mem_cons.1 hx with rfl | hx
   ·exact ho
   ·exact h2 x hx
  ·rw [hd, h3]; simp only [laysB, sizeL, List.append_assoc]; rw [Nat.add_assoc]
  ·rw [h4]; simp only [sizeL]; rw [Nat.add_assoc]
theorem fin_back {s : Quill.Sc} (h : s.fin = 0) : s.bad = 0 ∧ (s.text.length : Int) ≤ s.pos := by
 unfold Quill.Sc.fin at h
 by_cases hb : s.bad ≠ 0
 ·rw [if_pos hb] at h; exact absurd h hb
 rw [if_neg hb] at h
 by_cases h2 : s.stands = false
 ·rw [if_pos h2] at h; exact absurd h (by decide)
 rw [if_neg h2] at h
 by_cases h3 : s.pos < (s.text.length : Int)
 ·rw [if_pos h3] at h; exact absurd h (by decide)
 exact ⟨by simpa using hb, by omega⟩
theorem opened_back {s : List UInt8} (h : (Crc.opened s).2 = 0) : s = Crc.sealed (Crc.opened s).1 := by
 by_cases h4 : s.length < 4
 ·rw [Crc.opened_short h4] at h; exact absurd h (by decide)
 cases hq : (Crc.four (Crc.sum (s.take (s.length - 4))) == s.drop (s.length - 4)) with
 | false => rw [Crc.opened_no h4 hq] at h; exact absurd h (by decide)
 | true =>
  rw [Crc.opened_yes h4 hq]
  have := Crc.sealed_eq s
  rw [hq] at this
  exact (by simpa using this : Crc.sealed (s.take (s.length - 4)) = s).symm
theorem scanN_stop : ∀ (n : Nat) (s : Quill.Sc), s.bad ≠ 0 → (scanN n s).2.bad ≠ 0
 | 0, s, h => h
 | n + 1, s, h => by
  have e2 : s.num 1 = (0, s) := by unfold Quill.Sc.num; rw [if_pos h]
  have e3 : (scanP s).2.bad ≠ 0 := by unfold scanP; rw [e2, if_pos h]; exact h
  show (if (scanP s).2.bad ≠ 0 then _ else _ : List OpP × Quill.Sc).2.bad ≠ 0
  rw [if_pos e3]; exact e3
theorem enc_dec {s : List UInt8} (h : (decOps s).2 = 0) : encOps (decOps s).1 = (s, 0) ∧ (∀ o ∈ (decOps s).1, checkP o = 0) ∧ (decOps s).1.length ≤ 40 := by
 unfold decOps at h ⊢
 by_cases h0 : (Crc.opened s).2 ≠ 0
 ·rw [if_pos h0] at h; exact absurd h h0
 rw [if_neg h0] at h ⊢
 have hs := opened_back (by simpa using h0 : (Crc.opened s).2 = 0)
 generalize (Crc.opened s).1 = t at h hs ⊢
 by_cases h40 : 40 < (Quill.Sc.num ⟨t, 0, 0⟩ 1).1
 ·rw [if_pos h40] at h; exact absurd h (by decide)
 rw [if_neg h40] at h ⊢
 obtain ⟨n, hn⟩ : ∃ n, n = (Quill.Sc.num ⟨t, 0, 0⟩ 1).1 := ⟨_, rfl⟩
 rw [← hn] at h h40 ⊢
 by_cases hf : (scanN n (Quill.Sc.num ⟨t, 0, 0⟩ 1).2).2.fin ≠ 0
 ·rw [if_pos hf] at h; exact absurd h hf
 rw [if_neg hf] at h ⊢
 by_cases hl : 1400 < s.length
 ·rw [if_pos hl] at h; exact absurd h (by decide)
 rw [if_neg hl]
 obtain ⟨hb, hp⟩ := fin_back (by simpa using hf)
 have hb0 : (Quill.Sc.num ⟨t, ((0 : Nat) : Int), 0⟩ ((1 : Nat) : Int)).2.bad = 0 := by
  apply Classical.byContradiction
  intro q
  exact scanN_stop n _ q hb
 obtain ⟨hl1, hnum⟩ := num_back t 0 1 (by omega) (by omega) hb0
 have hnum : Quill.Sc.num ⟨t, 0, 0⟩ 1 = (Quill.tell ((t.drop 0).take 1), ⟨t, ((1 : Nat) : Int), 0⟩) := hnum
 cases t with
 | nil => simp at hl1
 | cons b t =>
  rw [hnum] at hn hb hp ⊢
  have hn : n = b.toNat := hn.trans (tell_one b)
  obtain ⟨L, q1, q2, q3, q4⟩ := scanN_back (b :: t) n 1 hb
  simp only at hb hp
  rw [q4] at hp ⊢
  simp only at hp ⊢
  have hnil : (b :: t).drop (1 + sizeL L) = [] := List.drop_eq_nil_of_le (by omega)
  rw [hnil, List.append_nil] at q3
  have q3 : t = laysB L := q3
  have hbody : bodyB L = b :: t := by
   show UInt8.ofNat L.length :: laysB L = _
   rw [q1, hn, UInt8.ofNat_toNat, ← q3]
  have hc : checkL L = 0 := by
   unfold checkL
   rw [if_neg (by omega)]
   have : ∀ M : List OpP, (∀ o ∈ M, checkP o = 0) → firstE M = 0 := by
    intro M
    induction M with
    | nil => intro _; rfl
    | cons o M ih => intro hM; show (if checkP o = 0 then _ else _) = _; rw [if_pos (hM o List.mem_cons_self)]; exact ih fun x hx => hM x (List.mem_cons_of_mem _ hx)
   exact this L q2
  have hsl : s.length = 5 + sizeL L := by
   rw [hs, Crc.sealed_length, ← hbody]; show (laysB L).length + 1 + 4 = _; rw [laysB_len]; omega
  refine ⟨?_, q2, by omega⟩
  unfold encOps
  rw [hc, if_neg (by simp), if_neg (by omega), hbody, ← hs]
end Go.Proofs.YtbaedepmogkkeaaGreat.Av
