/- stamp: a text is cut into payloads, walked. No conditions but that a text is shorter than memory. -/
import Derived.Test.YtbaedepmogkkeaaStamp1
namespace Go.Proofs.Ytbaedepmogkkeaa.Av
set_option maxHeartbeats 1000000
open Go Go.RowKit
set_option linter.unusedVariables false
set_option linter.unusedSimpArgs false
set_option maxRecDepth 100000

/-- the payload of a number -/
def pc (t : List UInt8) (i : Nat) : List UInt8 := (t.drop (48 * i)).take 48
def pcs (t : List UInt8) (k : Nat) : List AV := (List.range k).map fun i => T (pc t i)
theorem pcs_succ (t : List UInt8) (k : Nat) : pcs t (k + 1) = pcs t k ++ [T (pc t k)] := by simp [pcs, List.range_succ]
theorem pcs_len (t : List UInt8) (k : Nat) : (pcs t k).length = k := by simp [pcs]
/-- how many there are -/
def npc (t : List UInt8) : Nat := (t.length + 47) / 48
theorem cnt_npc (t : List UInt8) : cntP (t.length : Int) = (npc t : Int) := by unfold cntP npc; split <;> omega
theorem cut_no (t : List UInt8) (n : Int) (hl : t.length ≤ 9223372036854775807) (h : n < npc t) : SP 41 [T t, Z n] (.tup [nilA, Z 24]) := by
  have hc := count_ok ((bs t).size : Int) (by rw [bs_size]; omega)
  rw [bs_size, cnt_npc] at hc
  rw [← bs_size t] at hc
  refine S_ Try.func41 (by kernel_rfl) rfl (Nat.le_of_ble_eq_true rfl) ?_
  show avc Try.prog SP _ _ _ _ _ _
  dsimp only [avc, startS, Array.toList, Try.f41]
  exact Av.W
theorem cut_yes (t : List UInt8) (n : Int) (hl : t.length ≤ 1000000000000) (h : (npc t : Int) ≤ n) : SP 41 [T t, Z n] (.tup [.own 9 (npc t) (pcs t (npc t)), Z 0]) := by
  have hc := count_ok ((bs t).size : Int) (by rw [bs_size]; omega)
  rw [bs_size, cnt_npc] at hc
  rw [← bs_size t] at hc
  have hs1 : sizeT Try.prog 9 = 1 := by kernel_rfl
  have hsz := bs_size t
  have hn : npc t = (t.length + 47) / 48 := rfl
  refine S_ Try.func41 (by kernel_rfl) rfl (Nat.le_of_ble_eq_true rfl) ?_
  show avc Try.prog SP _ _ _ _ _ _
  dsimp only [avc, startS, Array.toList, Try.f41]
  refine Av.Wk ?_
  refine ⟨[6, 0], [(6, some 9)], fun vs bl => ∃ (i : Nat) (cs : List AV) (u : List UInt8) (s : ByteArray), i ≤ npc t ∧ cs = pcs t i ∧ u = t.drop (48 * i) ∧ s = bs u ∧ (vs = [.sl 0 i, .ex (.string s)] ∧ bl = [⟨cs, some 9, false, true⟩]),
    fun vs bl => match vs with | [.sl _ i, _] => npc t - i | _ => 0, ?_, ?_⟩
  · exact ⟨0, _, t, _, by omega, rfl, by simp, rfl, rfl, rfl⟩
  rintro vs bl ⟨i, cs, u, s, hi, hcs, hu, hs, rfl, rfl⟩
  have hcl : cs.length = i := by rw [hcs, pcs_len]
  have hul : u.length = t.length - 48 * i := by rw [hu, List.length_drop]
  have hus := bs_size u
  subst hs
  by_cases h0 : u = []
  · have hik : i = npc t := by subst h0; simp at hul; omega
    subst hik
    subst hcs
    subst h0
    exact Av.W
  · have hpos : 0 < u.length := List.length_pos_iff.2 h0
    by_cases h1 : u.length ≤ 48
    · have hk : npc t = i + 1 := by omega
      have hfin : pcs t (npc t) = cs ++ [AV.ex (.string (bs u))] := by
        rw [hk, pcs_succ, hcs, hu, pc, List.take_of_length_le (by rw [← hu]; exact h1)]
      have hWz : Av.FzF := ⟨⟩
      refine Av.Wk ?_
      refine And.intro ⟨room_s (by omega), by rw [hs1, hcl, Nat.mul_one], by rw [hs1]; rfl, one_S _⟩ ?_
      refine Av.Wk ?_
      refine And.intro ⟨rfl, hk, hfin⟩ ?_
      exact Av.W
    · have hi1 : i + 1 ≤ npc t := by omega
      have fin : cs ++ [AV.ex (.string ((bs u).extract (0 : Int).toNat (48 : Int).toNat))] = pcs t (i + 1) := by
        rw [bs_cut, pcs_succ, hcs, pc, hu]; rfl
      have fin2 : (bs u).extract (48 : Int).toNat ((bs u).size : Int).toNat = bs (t.drop (48 * (i + 1))) := by
        rw [bs_cut, hus, hu, List.drop_drop]
        congr 1
        rw [List.take_of_length_le (by rw [List.length_drop, List.length_drop]; simp; omega)]
        congr 1
      have hWz : Av.FzF := ⟨⟩
      refine Av.Wk ?_
      refine And.intro ⟨room_s (by omega), by rw [hs1, hcl, Nat.mul_one], by rw [hs1]; rfl, one_S _⟩ ?_
      refine Av.Wk ?_
      exact ⟨⟨i + 1, _, _, _, hi1, fin, rfl, fin2, rfl, rfl⟩, (by omega : npc t - (i + 1) < npc t - i)⟩
end Go.Proofs.Ytbaedepmogkkeaa.Av
