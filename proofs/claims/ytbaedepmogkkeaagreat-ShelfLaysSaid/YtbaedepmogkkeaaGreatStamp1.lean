/- stamp: marks, and what they are made of, walked. No conditions but that numbers have 64 bits. -/
import Derived.Test.YtbaedepmogkkeaaGreatAuto
import Derived.Test.YtbaedepmogkkeaaGreatSnd
namespace Go.Proofs.YtbaedepmogkkeaaGreat.Av
set_option maxHeartbeats 1000000
open Go Go.RowKit
set_option linter.unusedVariables false
set_option linter.unusedSimpArgs false
set_option maxRecDepth 100000

/-- a generation and a place that have a mark -/
def OkM (g : Nat) (p : Int) : Prop := 1 ≤ g ∧ g ≤ 1099511627776 ∧ 0 ≤ p ∧ p < 1048575
theorem mark_yes {g : Nat} {p : Int} (h : OkM g p) : SP 66 [U g, Z p] (.tup [U ((g : Int) * 1048576 + p + 1), Z 0]) := by
  have h : 1 ≤ g ∧ g ≤ 1099511627776 ∧ 0 ≤ p ∧ p < 1048575 := h
  refine S_ Tryz.func66 (by kernel_rfl) rfl (Nat.le_of_ble_eq_true rfl) ?_
  show avc Tryz.prog SP _ _ _ _ _ _
  dsimp only [avc, startS, Array.toList, Tryz.f66]
  exact Av.W
theorem mark_no {g : Nat} {p : Int} (h : ¬ OkM g p) : SP 66 [U g, Z p] (.tup [U 0, Z 2]) := by
  have h : ¬ (1 ≤ g ∧ g ≤ 1099511627776 ∧ 0 ≤ p ∧ p < 1048575) := h
  refine S_ Tryz.func66 (by kernel_rfl) rfl (Nat.le_of_ble_eq_true rfl) ?_
  show avc Tryz.prog SP _ _ _ _ _ _
  dsimp only [avc, startS, Array.toList, Tryz.f66]
  exact Av.W
theorem rmark_yes {g : Nat} {p : Int} (h : OkM g p) : SP 71 [U g, Z p] (.tup [U ((g : Int) * 1048576 + p + 1), Z 0]) := by
  have h : 1 ≤ g ∧ g ≤ 1099511627776 ∧ 0 ≤ p ∧ p < 1048575 := h
  have hm : IntKind.u64.wrap (1048576 * (g : Int)) = (g : Int) * 1048576 := by rw [wrap_u64 (by omega) (by omega)]; omega
  refine S_ Tryz.func71 (by kernel_rfl) rfl (Nat.le_of_ble_eq_true rfl) ?_
  show avc Tryz.prog SP _ _ _ _ _ _
  dsimp only [avc, startS, Array.toList, Tryz.f71]
  exact Av.W
theorem rmark_no {g : Nat} {p : Int} (h : ¬ OkM g p) : SP 71 [U g, Z p] (.tup [U 0, Z 2]) := by
  have h : ¬ (1 ≤ g ∧ g ≤ 1099511627776 ∧ 0 ≤ p ∧ p < 1048575) := h
  refine S_ Tryz.func71 (by kernel_rfl) rfl (Nat.le_of_ble_eq_true rfl) ?_
  show avc Tryz.prog SP _ _ _ _ _ _
  dsimp only [avc, startS, Array.toList, Tryz.f71]
  exact Av.W
/-- a number that is a mark -/
def OkP (m : Nat) : Prop := 1048576 ≤ m ∧ m < 1152921504607895552 ∧ (m : Int) % 1048576 ≠ 0
theorem parts_yes {m : Nat} (h : OkP m) : SP 213 [U m] (.tup [U ((m : Int) / 1048576), Z ((m : Int) % 1048576 - 1), B true]) := by
  have h : 1048576 ≤ m ∧ m < 1152921504607895552 ∧ (m : Int) % 1048576 ≠ 0 := h
  refine S_ Tryz.func213 (by kernel_rfl) rfl (Nat.le_of_ble_eq_true rfl) ?_
  show avc Tryz.prog SP _ _ _ _ _ _
  dsimp only [avc, startS, Array.toList, Tryz.f213]
  exact Av.W
theorem parts_no {m : Nat} (hm : m < 18446744073709551616) (h : ¬ OkP m) : SP 213 [U m] (.tup [U 0, Z 0, B false]) := by
  have h : ¬ (1048576 ≤ m ∧ m < 1152921504607895552 ∧ (m : Int) % 1048576 ≠ 0) := h
  refine S_ Tryz.func213 (by kernel_rfl) rfl (Nat.le_of_ble_eq_true rfl) ?_
  show avc Tryz.prog SP _ _ _ _ _ _
  dsimp only [avc, startS, Array.toList, Tryz.f213]
  exact Av.W
theorem rparts_yes {m : Nat} (h : OkP m) : SP 215 [U m] (.tup [U ((m : Int) / 1048576), Z ((m : Int) % 1048576 - 1), B true]) := by
  have h : 1048576 ≤ m ∧ m < 1152921504607895552 ∧ (m : Int) % 1048576 ≠ 0 := h
  refine S_ Tryz.func215 (by kernel_rfl) rfl (Nat.le_of_ble_eq_true rfl) ?_
  show avc Tryz.prog SP _ _ _ _ _ _
  dsimp only [avc, startS, Array.toList, Tryz.f215]
  exact Av.W
theorem rparts_no {m : Nat} (hm : m < 18446744073709551616) (h : ¬ OkP m) : SP 215 [U m] (.tup [U 0, Z 0, B false]) := by
  have h : ¬ (1048576 ≤ m ∧ m < 1152921504607895552 ∧ (m : Int) % 1048576 ≠ 0) := h
  refine S_ Tryz.func215 (by kernel_rfl) rfl (Nat.le_of_ble_eq_true rfl) ?_
  show avc Tryz.prog SP _ _ _ _ _ _
  dsimp only [avc, startS, Array.toList, Tryz.f215]
  exact Av.W
/-- how many payloads -/
def cntP (n : Int) : Int := if n < 1 then 0 else (n - 1) / 48 + 1
theorem count_no {n : Int} (h : n < 1) : SP 129 [Z n] (Z 0) := by
  refine S_ Tryz.func129 (by kernel_rfl) rfl (Nat.le_of_ble_eq_true rfl) ?_
  show avc Tryz.prog SP _ _ _ _ _ _
  dsimp only [avc, startS, Array.toList, Tryz.f129]
  exact Av.W
theorem count_yes {n : Int} (h : 1 ≤ n) (h2 : n ≤ 9223372036854775807) : SP 129 [Z n] (Z ((n - 1) / 48 + 1)) := by
  refine S_ Tryz.func129 (by kernel_rfl) rfl (Nat.le_of_ble_eq_true rfl) ?_
  show avc Tryz.prog SP _ _ _ _ _ _
  dsimp only [avc, startS, Array.toList, Tryz.f129]
  exact Av.W
theorem rcount_no {n : Int} (h : n < 1) : SP 69 [Z n] (Z 0) := by
  refine S_ Tryz.func69 (by kernel_rfl) rfl (Nat.le_of_ble_eq_true rfl) ?_
  show avc Tryz.prog SP _ _ _ _ _ _
  dsimp only [avc, startS, Array.toList, Tryz.f69]
  exact Av.W
theorem rcount_yes0 {n : Int} (h : 1 ≤ n) (h2 : n ≤ 9223372036854775807) (h3 : n % 48 = 0) : SP 69 [Z n] (Z (n / 48)) := by
  refine S_ Tryz.func69 (by kernel_rfl) rfl (Nat.le_of_ble_eq_true rfl) ?_
  show avc Tryz.prog SP _ _ _ _ _ _
  dsimp only [avc, startS, Array.toList, Tryz.f69]
  exact Av.W
theorem rcount_yes1 {n : Int} (h : 1 ≤ n) (h2 : n ≤ 9223372036854775807) (h3 : n % 48 ≠ 0) : SP 69 [Z n] (Z (n / 48 + 1)) := by
  refine S_ Tryz.func69 (by kernel_rfl) rfl (Nat.le_of_ble_eq_true rfl) ?_
  show avc Tryz.prog SP _ _ _ _ _ _
  dsimp only [avc, startS, Array.toList, Tryz.f69]
  exact Av.W
theorem count_ok (n : Int) (h2 : n ≤ 9223372036854775807) : SP 129 [Z n] (Z (cntP n)) := by
  unfold cntP
  split
  · rename_i h; exact count_no h
  · exact count_yes (by omega) h2
theorem rcount_ok (n : Int) (h2 : n ≤ 9223372036854775807) : SP 69 [Z n] (Z (cntP n)) := by
  unfold cntP
  split
  · rename_i h; exact rcount_no h
  · by_cases h3 : n % 48 = 0
    · rw [show (n - 1) / 48 + 1 = n / 48 by omega]; exact rcount_yes0 (by omega) h2 h3
    · rw [show (n - 1) / 48 + 1 = n / 48 + 1 by omega]; exact rcount_yes1 (by omega) h2 h3
end Go.Proofs.YtbaedepmogkkeaaGreat.Av
