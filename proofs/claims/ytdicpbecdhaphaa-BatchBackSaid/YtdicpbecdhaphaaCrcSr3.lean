/- More functions of crc and of its reference, walked. -/
import Derived.Test.YtdicpbecdhaphaaCrcSr2
import Derived.Deep.RegionWith
import Derived.Deep.RegionHeld3
import Derived.BigQuiet
namespace Go.Proofs.Ytdicpbecdhaphaa
set_option linter.unusedSimpArgs false
set_option linter.unusedVariables false
open Go.RowKit

set_option maxHeartbeats 400000 in
theorem seal_any (l : List UInt8) (w : World) (hs : l.length ≤ 1048576) :
    Calls Try.prog 72 #[.string (bs l)] w fun e w' => e = .returned (.string (bs (Crc.sealed l))) ∧ Below w.heap.size w w' := by
  have hf : (Crc.four (Crc.sum l)).length ≤ 4 := Nat.le_refl 4
  have hx : Crc.sealed l = l ++ Crc.four (Crc.sum l) := rfl
  have HX := Lib.hid hx; clear hx
  go_enter Try.func72, Try.ntmps72
  go_wp2_with (first
    | (go_at_call 98; refine (sum_any _ _ (by omega)).mono ?_; rintro e w' ⟨rfl, rfl⟩)
    | (go_at_call 97; refine (four_any _ _).mono ?_; rintro e w' ⟨rfl, hb⟩))
  go_ret
  exact ⟨by rw [HX.out]; rfl, hb⟩

set_option maxHeartbeats 400000 in
theorem open_short (l : List UInt8) (w : World) (h4 : l.length < 4) :
    Calls Try.prog 73 #[.string (bs l)] w fun e w' => e = .returned (.tuple #[.string (bs []), .int .i64 3]) ∧ Below w.heap.size w w' := by
  go_enter Try.func73, Try.ntmps73
  go_wp2
  go_ret2
  exact ⟨rfl, Below.refl _ _⟩

set_option maxHeartbeats 400000 in
theorem open_no (l : List UInt8) (w : World) (hs : l.length ≤ 1048576) (h4 : (4 : Int) ≤ l.length) (hq : (Crc.four (Crc.sum (l.take (l.length - 4))) == l.drop (l.length - 4)) = false) :
    Calls Try.prog 73 #[.string (bs l)] w fun e w' => e = .returned (.tuple #[.string (bs []), .int .i64 10]) ∧ Below w.heap.size w w' := by
  have hi : (l.length : Int) - 4 ≤ l.length := by omega
  have hj : ((l.length : Int) - 4).toNat = l.length - 4 := by omega
  have hl : (l.take (l.length - 4)).length ≤ 1048576 := Nat.le_trans (List.length_take_le _ _) (by omega)
  go_enter Try.func73, Try.ntmps73
  go_wp2
  go_region_with (first
    | (go_at_call 98; refine (sum_any _ _ (by omega)).mono ?_; rintro e w' ⟨rfl, rfl⟩)
    | (go_at_call 97; refine (four_any _ _).mono ?_; rintro e w' ⟨rfl, hb⟩))
  go_wp2
  go_ret2
  exact ⟨rfl, (Below.refl _ _).drew.trans hb⟩

set_option maxHeartbeats 400000 in
theorem open_yes (l : List UInt8) (w : World) (hs : l.length ≤ 1048576) (h4 : (4 : Int) ≤ l.length) (hq : (Crc.four (Crc.sum (l.take (l.length - 4))) == l.drop (l.length - 4)) = true) :
    Calls Try.prog 73 #[.string (bs l)] w fun e w' => e = .returned (.tuple #[.string (bs (l.take (l.length - 4))), .int .i64 0]) ∧ Below w.heap.size w w' := by
  have hi : (l.length : Int) - 4 ≤ l.length := by omega
  have hj : ((l.length : Int) - 4).toNat = l.length - 4 := by omega
  have hl : (l.take (l.length - 4)).length ≤ 1048576 := Nat.le_trans (List.length_take_le _ _) (by omega)
  go_enter Try.func73, Try.ntmps73
  go_wp2
  go_region_with (first
    | (go_at_call 98; refine (sum_any _ _ (by omega)).mono ?_; rintro e w' ⟨rfl, rfl⟩)
    | (go_at_call 97; refine (four_any _ _).mono ?_; rintro e w' ⟨rfl, hb⟩))
  go_wp2
  go_ret2
  exact ⟨rfl, (Below.refl _ _).drew.trans hb⟩

theorem open_any (l : List UInt8) (w : World) (hs : l.length ≤ 1048576) :
    Calls Try.prog 73 #[.string (bs l)] w fun e w' => e = .returned (.tuple #[.string (bs (Crc.opened l).1), .int .i64 (Crc.opened l).2]) ∧ Below w.heap.size w w' := by
  by_cases h4 : l.length < 4
  · rw [Crc.opened_short h4]; exact open_short l w h4
  · cases hq : (Crc.four (Crc.sum (l.take (l.length - 4))) == l.drop (l.length - 4))
    · rw [Crc.opened_no h4 hq]; exact open_no l w hs (by omega) hq
    · rw [Crc.opened_yes h4 hq]; exact open_yes l w hs (by omega) hq
end Go.Proofs.Ytdicpbecdhaphaa
