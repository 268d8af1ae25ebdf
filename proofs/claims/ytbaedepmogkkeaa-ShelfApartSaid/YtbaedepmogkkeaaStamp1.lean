/- stamp: marks, and what they are made of, walked. No conditions but that numbers have 64 bits. -/
import Derived.Test.YtbaedepmogkkeaaAuto
import Derived.Test.YtbaedepmogkkeaaSnd
namespace Go.Proofs.Ytbaedepmogkkeaa.Av
set_option maxHeartbeats 1000000
open Go Go.RowKit
set_option linter.unusedVariables false
set_option linter.unusedSimpArgs false
set_option maxRecDepth 100000

/-- a generation and a place that have a mark -/
def OkM (g : Nat) (p : Int) : Prop := 1 ≤ g ∧ g ≤ 1099511627776 ∧ 0 ≤ p ∧ p < 1048575
theorem mark_yes {g : Nat} {p : Int} (h : OkM g p) : SP 42 [U g, Z p] (.tup [U ((g : Int) * 1048576 + p + 1), Z 0]) := by
  have h : 1 ≤ g ∧ g ≤ 1099511627776 ∧ 0 ≤ p ∧ p < 1048575 := h
  refine S_ Try.func42 (by kernel_rfl) rfl (Nat.le_of_ble_eq_true rfl) ?_
  show avc Try.prog SP _ _ _ _ _ _
  dsimp only [avc, startS, Array.toList, Try.f42]
  exact Av.W
theorem mark_no {g : Nat} {p : Int} (h : ¬ OkM g p) : SP 42 [U g, Z p] (.tup [U 0, Z 2]) := by
  have h : ¬ (1 ≤ g ∧ g ≤ 1099511627776 ∧ 0 ≤ p ∧ p < 1048575) := h
  refine S_ Try.func42 (by kernel_rfl) rfl (Nat.le_of_ble_eq_true rfl) ?_
  show avc Try.prog SP _ _ _ _ _ _
  dsimp only [avc, startS, Array.toList, Try.f42]
  exact Av.W
/-- a number that is a mark -/
def OkP (m : Nat) : Prop := 1048576 ≤ m ∧ m < 1152921504607895552 ∧ (m : Int) % 1048576 ≠ 0
/-- how many payloads -/
def cntP (n : Int) : Int := if n < 1 then 0 else (n - 1) / 48 + 1
theorem count_no {n : Int} (h : n < 1) : SP 46 [Z n] (Z 0) := by
  refine S_ Try.func46 (by kernel_rfl) rfl (Nat.le_of_ble_eq_true rfl) ?_
  show avc Try.prog SP _ _ _ _ _ _
  dsimp only [avc, startS, Array.toList, Try.f46]
  exact Av.W
theorem count_yes {n : Int} (h : 1 ≤ n) (h2 : n ≤ 9223372036854775807) : SP 46 [Z n] (Z ((n - 1) / 48 + 1)) := by
  refine S_ Try.func46 (by kernel_rfl) rfl (Nat.le_of_ble_eq_true rfl) ?_
  show avc Try.prog SP _ _ _ _ _ _
  dsimp only [avc, startS, Array.toList, Try.f46]
  exact Av.W
theorem count_ok (n : Int) (h2 : n ≤ 9223372036854775807) : SP 46 [Z n] (Z (cntP n)) := by
  unfold cntP
  split
  · rename_i h; exact count_no h
  · exact count_yes (by omega) h2
end Go.Proofs.Ytbaedepmogkkeaa.Av
