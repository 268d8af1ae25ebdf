/- stamp: payloads are put together, walked by the reference. No conditions but that texts are shorter than memory. -/
import Derived.Test.YtbaedepmogkkeaaGreatStamp2
namespace Go.Proofs.YtbaedepmogkkeaaGreat.Av
set_option maxHeartbeats 1000000
open Go Go.RowKit
set_option linter.unusedVariables false
set_option linter.unusedSimpArgs false
set_option maxRecDepth 100000

theorem rglue_neg (L : List (List UInt8)) (n : Int) (h : n < 0) : SP 76 [.vs L.length (L.map T), Z n] (.tup [T [], Z 2]) := by
  refine S_ Tryz.func76 (by kernel_rfl) rfl (Nat.le_of_ble_eq_true rfl) ?_
  show avc Tryz.prog SP _ _ _ _ _ _
  dsimp only [avc, startS, Array.toList, Tryz.f76]
  exact Av.W
theorem rglue_ok (L : List (List UInt8)) (n : Int) (h : 0 ≤ n) (hl : L.length ≤ 1000000) (hL : L.flatten.length ≤ 1000000000000) (s : ByteArray) (er : Int)
    (hs : (n ≤ L.flatten.length ∧ s = bs (L.flatten.take n.toNat) ∧ er = 0) ∨ ((L.flatten.length : Int) < n ∧ s = bs [] ∧ er = 3)) :
    SP 76 [.vs L.length (L.map T), Z n] (.tup [.ex (.string s), Z er]) := by
  have hs1 : sizeT Tryz.prog 9 = 1 := by kernel_rfl
  refine S_ Tryz.func76 (by kernel_rfl) rfl (Nat.le_of_ble_eq_true rfl) ?_
  show avc Tryz.prog SP _ _ _ _ _ _
  dsimp only [avc, startS, Array.toList, Tryz.f76]
  refine Av.Wk ?_
  refine ⟨[7, 0, 6, 1], [], fun vs bl => ∃ (i : Nat) (a : ByteArray), i ≤ L.length ∧ a = bs (L.take i).flatten ∧ (vs = [Z i, .vs L.length (L.map T), .ex (.string a), Z n] ∧ bl = []),
    fun vs bl => match vs with | [.ex (.int _ i), _, _, _] => L.length - i.toNat | _ => 0, ?_, ?_⟩
  · exact ⟨0, _, by omega, rfl, rfl, rfl⟩
  rintro vs bl ⟨i, a, hi, ha, rfl, rfl⟩
  have hsz : a.size = (L.take i).flatten.length := by rw [ha, bs_size]
  have hle : (L.take i).flatten.length ≤ L.flatten.length := by
    have : L.flatten = (L.take i).flatten ++ (L.drop i).flatten := by rw [← List.flatten_append, List.take_append_drop]
    rw [this, List.length_append]; omega
  by_cases hlt : i < L.length
  · have hat : (L.map T)[mulS (i : Int).toNat (sizeT Tryz.prog 9)]? = some (T L[i]) := by rw [mulS_eq, hs1]; simp [hlt]
    have hnext : (L.take (i + 1)).flatten = (L.take i).flatten ++ L[i] := by rw [List.take_succ_eq_append_getElem hlt, List.flatten_append]; simp
    have hle2 : (L.take (i + 1)).flatten.length ≤ L.flatten.length := by
      have : L.flatten = (L.take (i + 1)).flatten ++ (L.drop (i + 1)).flatten := by rw [← List.flatten_append, List.take_append_drop]
      rw [this, List.length_append]; omega
    have hadd : a.size + (bs L[i]).size ≤ 9223372036854775807 := by
      rw [hnext, List.length_append] at hle2
      rw [hsz, bs_size]; omega
    have hnew : a ++ bs L[i] = bs (L.take (i + 1)).flatten := by rw [ha, bs_add, hnext]
    generalize L[i] = q at hat hadd hnew
    repeat' ((try conv => whnf) <;> first | refine Av.hm_ ?_ | refine Av.w1 ?_ | refine Av.w2 ?_ | refine Av.w3 ?_ | refine Av.w4 ?_ | refine Av.nle rfl ?_ | refine Av.q1 ?_ | refine Av.q2 ?_ | refine Av.q3 ?_ | refine Av.q4 ?_ | refine Av.inr_ (by omega) (by omega) ?_ | (refine ⟨_, hat, ?_⟩) | (refine And.intro hadd ?_) | exact True.intro | refine Av.eqt_ (by kernel_rfl) ?_ | refine ⟨rfl, ?_⟩ | refine ⟨⟨Nat.le_of_ble_eq_true rfl, rfl⟩, ?_⟩ | refine ⟨⟨rfl, rfl⟩, ?_⟩ | refine ⟨⟨rfl, rfl, rfl⟩, ?_⟩ | exact ⟨rfl, rfl, rfl⟩ | exact ⟨rfl, rfl⟩ | ((first | refine br_lt ?_ ?_ | refine br_lt_ ?_ ?_ | refine br_le ?_ ?_ | refine br_le_ ?_ ?_ | refine br_eq ?_ ?_ | refine br_eq_ ?_ ?_ | refine br_seq ?_ ?_ | refine br_seq_ ?_ ?_) <;> intro hBr <;> first | (exfalso; omega) | (exfalso; contradiction) | (exfalso; exact hBr rfl) | skip) | refine br_not ?_ | refine br_not_ ?_ | refine br_and ?_ | refine br_and_ ?_ | refine Av.asm_ (by omega) ?_ | refine ⟨_, wrap_i64 (by omega), ?_⟩ | refine ⟨_, wrap_u64 (by omega) (by omega), ?_⟩ | refine ⟨_, wrap_u8 (by omega) (by omega), ?_⟩ | refine ⟨_, wrap_u32 (by omega) (by omega), ?_⟩ | refine ⟨_, wrap_u16 (by omega) (by omega), ?_⟩ | refine ⟨_, rfl, ?_⟩ | exact rfl)
    exact ⟨⟨i + 1, _, by omega, hnew, rfl, rfl⟩, (by simp only [Int.toNat_natCast]; show L.length - ((i : Int) + 1).toNat < _; omega)⟩
  · have hik : i = L.length := by omega
    have hall : (L.take i).flatten = L.flatten := by rw [hik, List.take_length]
    rw [hall] at ha hsz
    rcases hs with ⟨h1, h2, h3⟩ | ⟨h1, h2, h3⟩
    · have hx : a.extract (0 : Int).toNat n.toNat = s := by rw [ha, h2, bs_cut]; simp
      refine Av.Wk ?_
      refine And.intro (congrArg (fun x => AV.ex (Value.string x)) hx) ?_
      subst h3
      exact Av.W
    · subst h2 h3
      exact Av.W
end Go.Proofs.YtbaedepmogkkeaaGreat.Av
