/- stamp: a text is cut into payloads, walked. No conditions but that a text is shorter than memory. -/
import Derived.Test.YtbaedepmogkkeaaGreatStamp1
namespace Go.Proofs.YtbaedepmogkkeaaGreat.Av
set_option maxHeartbeats 1000000
open Go Go.RowKit
set_option linter.unusedVariables false
set_option linter.unusedSimpArgs false
set_option maxRecDepth 100000

/-- the payload of a number -/
def pc (t : List UInt8) (i : Nat) : List UInt8 := (t.drop (48 * i)).take 48
def pcs (t : List UInt8) (k : Nat) : List AV := (List.range k).map fun i => T (pc t i)
theorem pcs_succ (t : List UInt8) (k : Nat) : pcs t (k + 1) = pcs t k ++ [T (pc t k)] := by simp [pcs, List.range_succ]
theorem pcs_len (t : List UInt8) (k : Nat) : (pcs t k).length = k := by simp [pcs]
/-- how many there are -/
def npc (t : List UInt8) : Nat := (t.length + 47) / 48
theorem cnt_npc (t : List UInt8) : cntP (t.length : Int) = (npc t : Int) := by unfold cntP npc; split <;> omega
theorem rcut_no (t : List UInt8) (n : Int) (hl : t.length ≤ 9223372036854775807) (h : n < npc t) : SP 70 [T t, Z n] (.tup [nilA, Z 24]) := by
  have hc := rcount_ok ((bs t).size : Int) (by rw [bs_size]; omega)
  rw [bs_size, cnt_npc] at hc
  rw [← bs_size t] at hc
  refine S_ Tryz.func70 (by kernel_rfl) rfl (Nat.le_of_ble_eq_true rfl) ?_
  show avc Tryz.prog SP _ _ _ _ _ _
  dsimp only [avc, startS, Array.toList, Tryz.f70]
  exact Av.W
theorem rcut_yes (t : List UInt8) (n : Int) (hl : t.length ≤ 1000000000000) (h : (npc t : Int) ≤ n) : SP 70 [T t, Z n] (.tup [.own 9 (npc t) (pcs t (npc t)), Z 0]) := by
  have hc := rcount_ok ((bs t).size : Int) (by rw [bs_size]; omega)
  rw [bs_size, cnt_npc] at hc
  rw [← bs_size t] at hc
  have hs1 : sizeT Tryz.prog 9 = 1 := by kernel_rfl
  have hsz := bs_size t
  refine S_ Tryz.func70 (by kernel_rfl) rfl (Nat.le_of_ble_eq_true rfl) ?_
  show avc Tryz.prog SP _ _ _ _ _ _
  dsimp only [avc, startS, Array.toList, Tryz.f70]
  refine Av.Wk ?_
  refine ⟨[6, 7, 0], [(6, some 9)], fun vs bl => ∃ (i : Nat) (cs : List AV) (z : Int), i ≤ npc t ∧ cs = pcs t i ∧ z = 48 * (i : Int) ∧ (vs = [.sl 0 i, Z z, T t] ∧ bl = [⟨cs, some 9, false, true⟩]),
    fun vs bl => match vs with | [.sl _ i, _, _] => npc t - i | _ => 0, ?_, ?_⟩
  · exact ⟨0, _, 0, by omega, rfl, by omega, rfl, rfl⟩
  rintro vs bl ⟨i, cs, z, hi, hcs, hz, rfl, rfl⟩
  have hcl : cs.length = i := by rw [hcs, pcs_len]
  have hn : npc t = (t.length + 47) / 48 := rfl
  by_cases hlt : 48 * i < t.length
  · have hi1 : i + 1 ≤ npc t := by omega
    have fin : ∀ e : Int, e = min (48 * (i : Int) + 48) t.length → cs ++ [AV.ex (.string ((bs t).extract z.toNat e.toNat))] = pcs t (i + 1) := by
      intro e he
      have e1 : z.toNat = 48 * i := by omega
      have e2 : (t.drop (48 * i)).take (e.toNat - 48 * i) = pc t i := by
        unfold pc
        by_cases h1 : 48 * i + 48 ≤ t.length
        · rw [show e.toNat - 48 * i = 48 by omega]
        · rw [List.take_of_length_le (by rw [List.length_drop]; omega), List.take_of_length_le (by rw [List.length_drop]; omega)]
      rw [bs_cut, e1, e2, pcs_succ, hcs]
    by_cases h1 : 48 * i + 48 ≤ t.length
    · have hWz : Av.FzF := ⟨⟩
      refine Av.Wk ?_
      refine And.intro ⟨room_s (by omega), by rw [hs1, hcl, Nat.mul_one], by rw [hs1]; rfl, one_S _⟩ ?_
      refine Av.Wk ?_
      exact ⟨⟨i + 1, _, _, hi1, fin _ (by omega), by omega, rfl, rfl⟩, (by omega : npc t - (i + 1) < npc t - i)⟩
    · have hWz : Av.FzF := ⟨⟩
      refine Av.Wk ?_
      refine And.intro ⟨room_s (by omega), by rw [hs1, hcl, Nat.mul_one], by rw [hs1]; rfl, one_S _⟩ ?_
      refine Av.Wk ?_
      exact ⟨⟨i + 1, _, _, hi1, fin _ (by omega), by omega, rfl, rfl⟩, (by omega : npc t - (i + 1) < npc t - i)⟩
  · have hik : i = npc t := by omega
    subst hik
    subst hcs
    exact Av.W
theorem cut_no (t : List UInt8) (n : Int) (hl : t.length ≤ 9223372036854775807) (h : n < npc t) : SP 65 [T t, Z n] (.tup [nilA, Z 24]) := by
  have hc := count_ok ((bs t).size : Int) (by rw [bs_size]; omega)
  rw [bs_size, cnt_npc] at hc
  rw [← bs_size t] at hc
  refine S_ Tryz.func65 (by kernel_rfl) rfl (Nat.le_of_ble_eq_true rfl) ?_
  show avc Tryz.prog SP _ _ _ _ _ _
  dsimp only [avc, startS, Array.toList, Tryz.f65]
  exact Av.W
theorem cut_yes (t : List UInt8) (n : Int) (hl : t.length ≤ 1000000000000) (h : (npc t : Int) ≤ n) : SP 65 [T t, Z n] (.tup [.own 9 (npc t) (pcs t (npc t)), Z 0]) := by
  have hc := count_ok ((bs t).size : Int) (by rw [bs_size]; omega)
  rw [bs_size, cnt_npc] at hc
  rw [← bs_size t] at hc
  have hs1 : sizeT Tryz.prog 9 = 1 := by kernel_rfl
  have hsz := bs_size t
  have hn : npc t = (t.length + 47) / 48 := rfl
  refine S_ Tryz.func65 (by kernel_rfl) rfl (Nat.le_of_ble_eq_true rfl) ?_
  show avc Tryz.prog SP _ _ _ _ _ _
  dsimp only [avc, startS, Array.toList, Tryz.f65]
  refine Av.Wk ?_
  refine ⟨[6, 0], [(6, some 9)], fun vs bl => ∃ (i : Nat) (cs : List AV) (u : List UInt8) (s : ByteArray), i ≤ npc t ∧ cs = pcs t i ∧ u = t.drop (48 * i) ∧ s = bs u ∧ (vs = [.sl 0 i, .ex (.string s)] ∧ bl = [⟨cs, some 9, false, true⟩]),
    fun vs bl => match vs with | [.sl _ i, _] => npc t - i | _ => 0, ?_, ?_⟩
  · exact ⟨0, _, t, _, by omega, rfl, by simp, rfl, rfl, rfl⟩
  rintro vs bl ⟨i, cs, u, s, hi, hcs, hu, hs, rfl, rfl⟩
  have hcl : cs.length = i := by rw [hcs, pcs_len]
  have hul : u.length = t.length - 48 * i := by rw [hu, List.length_drop]
  have hus := bs_size u
  subst hs
  by_cases h0 : u = []
  · have hik : i = npc t := by subst h0; simp at hul; omega
    subst hik
    subst hcs
    subst h0
    exact Av.W
  · have hpos : 0 < u.length := List.length_pos_iff.2 h0
    by_cases h1 : u.length ≤ 48
    · have hk : npc t = i + 1 := by omega
      have hfin : pcs t (npc t) = cs ++ [AV.ex (.string (bs u))] := by
        rw [hk, pcs_succ, hcs, hu, pc, List.take_of_length_le (by rw [← hu]; exact h1)]
      have hWz : Av.FzF := ⟨⟩
      refine Av.Wk ?_
      refine And.intro ⟨room_s (by omega), by rw [hs1, hcl, Nat.mul_one], by rw [hs1]; rfl, one_S _⟩ ?_
      refine Av.Wk ?_
      refine And.intro ⟨rfl, hk, hfin⟩ ?_
      exact Av.W
    · have hi1 : i + 1 ≤ npc t := by omega
      have fin : cs ++ [AV.ex (.string ((bs u).extract (0 : Int).toNat (48 : Int).toNat))] = pcs t (i + 1) := by
        rw [bs_cut, pcs_succ, hcs, pc, hu]; rfl
      have fin2 : (bs u).extract (48 : Int).toNat ((bs u).size : Int).toNat = bs (t.drop (48 * (i + 1))) := by
        rw [bs_cut, hus, hu, List.drop_drop]
        congr 1
        rw [List.take_of_length_le (by rw [List.length_drop, List.length_drop]; simp; omega)]
        congr 1
      have hWz : Av.FzF := ⟨⟩
      refine Av.Wk ?_
      refine And.intro ⟨room_s (by omega), by rw [hs1, hcl, Nat.mul_one], by rw [hs1]; rfl, one_S _⟩ ?_
      refine Av.Wk ?_
      exact ⟨⟨i + 1, _, _, _, hi1, fin, rfl, fin2, rfl, rfl⟩, (by omega : npc t - (i + 1) < npc t - i)⟩
end Go.Proofs.YtbaedepmogkkeaaGreat.Av
