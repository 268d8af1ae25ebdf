/- Texts that begin so: strings.HasPrefix, and the document's Begins. No conditions but that lengths are what memory holds. -/
import Derived.Test.YtdicpbecdhaphaaAuto
namespace Go.Proofs.Ytdicpbecdhaphaa.Av.Pre
open Go Go.RowKit
set_option linter.unusedVariables false
set_option linter.unusedSimpArgs false
set_option maxRecDepth 100000
set_option maxHeartbeats 1000000
def begins (p x : List UInt8) : Bool := p.isPrefixOf x
theorem begins_take {p x : List UInt8} (h : p.length ≤ x.length) : (x.take p.length == p) = begins p x := by
  unfold begins
  rw [Bool.eq_iff_iff, List.isPrefixOf_iff_prefix, List.prefix_iff_eq_take, beq_iff_eq]
  exact eq_comm
theorem prefix1_ok (x p : List UInt8) (hx : x.length ≤ 9223372036854775807) (hp : p.length ≤ 9223372036854775807) : SP 95 [T x, T p] (B (begins p x)) := by
  have s1 := bs_size x
  have s2 := bs_size p
  by_cases h : p.length ≤ x.length
  · have e : (((bs x).extract (0 : Int).toNat ((bs p).size : Int).toNat).toList == (bs p).toList) = begins p x := by
      rw [bs_cut, bsl_, bsl_, ← begins_take h, bs_size]
      simp
    rw [← e]
    refine S_ Try.func95 (by kernel_rfl) rfl (Nat.le_of_ble_eq_true rfl) ?_
    show avc Try.prog SP _ _ _ _ _ _
    dsimp only [avc, startS, Array.toList, Try.f95]
    exact Av.W
  · have e : begins p x = false := by
      unfold begins
      rw [Bool.eq_false_iff]
      intro hb
      have := (List.isPrefixOf_iff_prefix.1 hb).length_le
      omega
    rw [e]
    refine S_ Try.func95 (by kernel_rfl) rfl (Nat.le_of_ble_eq_true rfl) ?_
    show avc Try.prog SP _ _ _ _ _ _
    dsimp only [avc, startS, Array.toList, Try.f95]
    exact Av.W
theorem prefix_ok (x p : List UInt8) (hx : x.length ≤ 9223372036854775807) (hp : p.length ≤ 9223372036854775807) : SP 69 [T x, T p] (B (begins p x)) := by
  have h := prefix1_ok x p hx hp
  refine S_ Try.func69 (by kernel_rfl) rfl (Nat.le_of_ble_eq_true rfl) ?_
  show avc Try.prog SP _ _ _ _ _ _
  dsimp only [avc, startS, Array.toList, Try.f69]
  exact Av.W
theorem begins_ok (x p : List UInt8) (hx : x.length ≤ 9223372036854775807) (hp : p.length ≤ 9223372036854775807) : SP 67 [T x, T p] (B (begins p x)) := by
  have s1 := bs_size x
  have s2 := bs_size p
  by_cases h : p.length ≤ x.length
  · have e : (((bs x).extract (0 : Int).toNat ((bs p).size : Int).toNat).toList == (bs p).toList) = begins p x := by
      rw [bs_cut, bsl_, bsl_, ← begins_take h, bs_size]
      simp
    rw [← e]
    refine S_ Try.func67 (by kernel_rfl) rfl (Nat.le_of_ble_eq_true rfl) ?_
    show avc Try.prog SP _ _ _ _ _ _
    dsimp only [avc, startS, Array.toList, Try.f67]
    exact Av.W
  · have e : begins p x = false := by
      unfold begins
      rw [Bool.eq_false_iff]
      intro hb
      have := (List.isPrefixOf_iff_prefix.1 hb).length_le
      omega
    rw [e]
    refine S_ Try.func67 (by kernel_rfl) rfl (Nat.le_of_ble_eq_true rfl) ?_
    show avc Try.prog SP _ _ _ _ _ _
    dsimp only [avc, startS, Array.toList, Try.f67]
    exact Av.W
end Go.Proofs.Ytdicpbecdhaphaa.Av.Pre
