/- What the claim stands on, Su5: contracts of functions and plain facts. No conditions. -/
import Derived.Test.YtbaedepmogkkeaaGreatChecked
import Derived.Test.YtbaedepmogkkeaaGreatSu2
import Derived.WalkKit
import Derived.Test.YtbaedepmogkkeaaGreatSu4
import Derived.Deep.WholeRow
import Derived.Deep.RegionWith
import Derived.Deep.RegionHeld3
import Derived.BigQuiet
namespace Go.Proofs.YtbaedepmogkkeaaGreat
set_option linter.unusedSimpArgs false
set_option linter.unusedVariables false
open Go.RowKit
namespace Crc
theorem int_xor (a b : BitVec 32) : bits .xor .u32 (a.toNat : Int) (b.toNat : Int) = ((a ^^^ b).toNat : Int) := by
 rw [u32_xor_nat _ _ a.isLt b.isLt, BitVec.toNat_xor]
theorem int_and (a b : BitVec 32) : bits .and .u32 (a.toNat : Int) (b.toNat : Int) = ((a &&& b).toNat : Int) := by
 rw [u32_and_nat _ _ a.isLt b.isLt, BitVec.toNat_and]
theorem int_byte (b : UInt8) : ((b.toNat : Int) % 4294967296) = ((b.toBitVec.setWidth 32).toNat : Int) := by
 have := b.toNat_lt
 rw [BitVec.toNat_setWidth, UInt8.toNat_toBitVec]
 omega
theorem int_half (a : BitVec 32) : (a.toNat : Int) / (2 : Int) = ((a >>> 1).toNat : Int) := by
 rw [BitVec.toNat_ushiftRight, Nat.shiftRight_eq_div_pow]; omega
theorem int_neg (a : BitVec 32) : (-(a.toNat : Int)) % 4294967296 = ((-a).toNat : Int) := by
 have := a.isLt
 rw [BitVec.toNat_neg]; omega
theorem bit_two (a : BitVec 32) : a.getLsbD 0 = (((a.toNat : Int) % 2) == 1) := by
 rw [BitVec.getLsbD]
 rw [Nat.testBit_zero, Bool.eq_iff_iff]; simp; omega
theorem shift_yes (a : BitVec 32) (h : (((a.toNat : Int) % 2) == 1) = true) : bits .xor .u32 ((a.toNat : Int) / 2) 3988292384 = ((shift a).toNat : Int) := by
 unfold shift
 rw [bit_two, h, int_half, if_pos rfl, ← int_xor]; rfl
theorem shift_no (a : BitVec 32) (h : (((a.toNat : Int) % 2) == 1) = false) : (a.toNat : Int) / 2 = ((shift a).toNat : Int) := by
 unfold shift
 rw [bit_two, h, int_half]; simp
theorem mask (u x : BitVec 32) : u &&& -(x &&& 1#32) = if x.getLsbD 0 then u else 0#32 := by
 have hx : x &&& 1#32 = if x.getLsbD 0 then 1#32 else 0#32 := by
  apply BitVec.eq_of_getLsbD_eq
  intro i hi
  rw [BitVec.getLsbD_and, BitVec.getLsbD_one]
  by_cases e : i = 0
  ·subst e; cases x.getLsbD 0 <;> simp
  ·have e' : ¬ i < 1 := by omega
   cases x.getLsbD 0 <;> simp [e]
 rw [hx]
 cases x.getLsbD 0
 ·simp
 ·rw [if_pos rfl, if_pos rfl, show -(1#32) = BitVec.allOnes 32 from by decide, BitVec.and_allOnes]
theorem shift_form (a : BitVec 32) : bits .xor .u32 ((a.toNat : Int) / 2) (bits .and .u32 3988292384 (-bits .and .u32 (a.toNat : Int) 1 % 4294967296)) = ((shift a).toNat : Int) := by
 have h1 : bits .and .u32 (a.toNat : Int) 1 = ((a &&& 1#32).toNat : Int) := int_and a 1#32
 rw [h1, int_neg, int_half]
 have h2 : bits .and .u32 3988292384 ((-(a &&& 1#32)).toNat : Int) = ((poly &&& -(a &&& 1#32)).toNat : Int) := int_and poly _
 rw [h2, int_xor, mask]; rfl
theorem byte_in (r : BitVec 32) (b : UInt8) : bits .xor .u32 (r.toNat : Int) ((b.toNat : Int) % 4294967296) = ((r ^^^ b.toBitVec.setWidth 32).toNat : Int) := by
 rw [int_byte, int_xor]
end Crc
set_option maxHeartbeats 400000 in
theorem shift_any (r : BitVec 32) (w : World) :
  Calls Tryz.prog 221 #[.int .u32 r.toNat] w fun e w' => e = .returned (.int .u32 (Crc.shift r).toNat) ∧ w = w' := by
 cases hb : (((r.toNat : Int) % 2) == 1)
 ·have e := ret_of (k := .u32) (Crc.shift_no r hb)
  have E := Lib.hid e; clear e
  go_enter Tryz.func221, Tryz.ntmps221
  go_wp2
  go_ret
  exact ⟨E.out, rfl⟩
 ·have e := ret_of (k := .u32) (Crc.shift_yes r hb)
  have E := Lib.hid e; clear e
  go_enter Tryz.func221, Tryz.ntmps221
  go_wp2
  go_ret
  exact ⟨E.out, rfl⟩
set_option maxHeartbeats 400000 in
theorem step_any (r : BitVec 32) (b : UInt8) (w : World) :
  Calls Tryz.prog 217 #[.int .u32 r.toNat, .int .u8 b.toNat] w fun e w' => e = .returned (.int .u32 (Crc.step r b).toNat) ∧ w = w' := by
 go_enter Tryz.func217, Tryz.ntmps217
 go_wp2
 go_loop [0, 9] (fun t i => ∃ k : Nat, k ≤ 8 ∧ i = .int .i64 k ∧ t = .int .u32 (Crc.shiftN k (r ^^^ b.toBitVec.setWidth 32)).toNat) (fun _ i => 8 - (intOf i).toNat)
 case atStart => exact ⟨0, by omega, rfl, val_of (Crc.byte_in r b)⟩
 case round =>
  obtain ⟨k, hk, rfl, rfl⟩ := hrel
  generalize hx : Crc.shiftN k (r ^^^ b.toBitVec.setWidth 32) = x
  have HX := Lib.hid hx; clear hx
  by_cases hlt : k < 8
  ·go_wp2
   go_round
   case rel => exact ⟨k + 1, by omega, by go_num, val_of (by rw [Crc.shift_form, Crc.shiftN, HX.out])⟩
   case measure => simp [intOf]; omega
  ·go_wp2
   go_ret
   obtain rfl : k = 8 := by omega
   exact ⟨ret_of (by rw [← HX.out]; rfl), rfl⟩
set_option maxHeartbeats 400000 in
theorem refstep_any (r : BitVec 32) (b : UInt8) (w : World) :
  Calls Tryz.prog 218 #[.int .u32 r.toNat, .int .u8 b.toNat] w fun e w' => e = .returned (.int .u32 (Crc.step r b).toNat) ∧ w = w' := by
 go_enter Tryz.func218, Tryz.ntmps218
 go_wp2
 go_loop [0, 5] (fun t i => ∃ k : Nat, k ≤ 8 ∧ i = .int .i64 k ∧ t = .int .u32 (Crc.shiftN k (r ^^^ b.toBitVec.setWidth 32)).toNat) (fun _ i => 8 - (intOf i).toNat)
 case atStart => exact ⟨0, by omega, rfl, val_of (Crc.byte_in r b)⟩
 case round =>
  obtain ⟨k, hk, rfl, rfl⟩ := hrel
  generalize hx : Crc.shiftN k (r ^^^ b.toBitVec.setWidth 32) = x
  have HX := Lib.hid hx; clear hx
  by_cases hlt : k < 8
  ·go_wp2_with (go_at_call 221; refine (shift_any _ _).mono ?_; rintro e w' ⟨rfl, rfl⟩)
   go_round
   case rel => exact ⟨k + 1, by omega, by go_num, val_of (by rw [Crc.shiftN, HX.out])⟩
   case measure => simp [intOf]; omega
  ·go_wp2
   go_ret
   obtain rfl : k = 8 := by omega
   exact ⟨ret_of (by rw [← HX.out]; rfl), rfl⟩
namespace Crc
theorem feed_take (r : BitVec 32) (l : List UInt8) (k : Nat) (h : k < l.length) : feed r (l.take (k + 1)) = step (feed r (l.take k)) (byteAt l k) := by
 rw [take_snoc l k h, feed_snoc]
theorem feed_all (r : BitVec 32) (l : List UInt8) (k : Nat) (h : l.length ≤ k) : feed r (l.take k) = feed r l := by
 rw [List.take_of_length_le h]
end Crc
set_option maxHeartbeats 400000 in
theorem feed_any (r : BitVec 32) (l : List UInt8) (w : World) (hs : l.length ≤ 9223372036854775807) :
  Calls Tryz.prog 198 #[.int .u32 r.toNat, .string (bs l)] w fun e w' => e = .returned (.int .u32 (Crc.feed r l).toNat) ∧ w = w' := by
 go_enter Tryz.func198, Tryz.ntmps198
 go_wp2
 go_loop [0, 8] (fun t i => ∃ k : Nat, k ≤ l.length ∧ i = .int .i64 k ∧ t = .int .u32 (Crc.feed r (l.take k)).toNat) (fun _ i => l.length - (intOf i).toNat)
 case atStart => exact ⟨0, by omega, rfl, rfl⟩
 case round =>
  obtain ⟨k, hk, rfl, rfl⟩ := hrel
  by_cases hlt : k < l.length
  ·have hx := Crc.feed_take r l k hlt
   generalize Crc.feed r (l.take k) = x at hx ⊢
   have HX := Lib.hid hx; clear hx
   go_wp2_with (go_at_call 217; refine (step_any _ _ _).mono ?_; rintro e w' ⟨rfl, rfl⟩)
   go_round
   case rel => exact ⟨k + 1, by omega, by go_num, val_of (by rw [HX.out])⟩
   case measure => simp [intOf]; omega
  ·have hx := Crc.feed_all r l k (by omega)
   generalize Crc.feed r (l.take k) = x at hx ⊢
   have HX := Lib.hid hx; clear hx
   go_wp2
   go_ret
   exact ⟨ret_of (by rw [HX.out]), rfl⟩
end Go.Proofs.YtbaedepmogkkeaaGreat
namespace Go.Proofs.YtbaedepmogkkeaaGreat
set_option linter.unusedSimpArgs false
set_option linter.unusedVariables false
open Go.RowKit
set_option maxHeartbeats 400000 in
theorem reffeed_any (r : BitVec 32) (l : List UInt8) (w : World) (hs : l.length ≤ 9223372036854775807) :
  Calls Tryz.prog 201 #[.int .u32 r.toNat, .string (bs l)] w fun e w' => e = .returned (.int .u32 (Crc.feed r l).toNat) ∧ w = w' := by
 go_enter Tryz.func201, Tryz.ntmps201
 go_wp2
 go_loop [0, 5] (fun t i => ∃ k : Nat, k ≤ l.length ∧ i = .int .i64 k ∧ t = .int .u32 (Crc.feed r (l.take k)).toNat) (fun _ i => l.length - (intOf i).toNat)
 case atStart => exact ⟨0, by omega, rfl, rfl⟩
 case round =>
  obtain ⟨k, hk, rfl, rfl⟩ := hrel
  by_cases hlt : k < l.length
  ·have hx := Crc.feed_take r l k hlt
   generalize Crc.feed r (l.take k) = x at hx ⊢
   have HX := Lib.hid hx; clear hx
   go_wp2_with (go_at_call 218; refine (refstep_any _ _ _).mono ?_; rintro e w' ⟨rfl, rfl⟩)
   go_round
   case rel => exact ⟨k + 1, by omega, by go_num, val_of (by rw [HX.out])⟩
   case measure => simp [intOf]; omega
  ·have hx := Crc.feed_all r l k (by omega)
   generalize Crc.feed r (l.take k) = x at hx ⊢
   have HX := Lib.hid hx; clear hx
   go_wp2
   go_ret
   exact ⟨ret_of (by rw [HX.out]), rfl⟩
namespace Crc
theorem int_not (a : BitVec 32) : bits .xor .u32 IntKind.u32.max (a.toNat : Int) = ((~~~ a).toNat : Int) := by
 have h : bits .xor .u32 ((start.toNat : Nat) : Int) (a.toNat : Int) = ((start ^^^ a).toNat : Int) := int_xor start a
 have e : start ^^^ a = ~~~ a := by rw [start_not, BitVec.xor_comm]
 rw [e] at h
 exact h
theorem int_not' (a : BitVec 32) : 4294967295 - (a.toNat : Int) = ((~~~ a).toNat : Int) := by
 have := a.isLt
 rw [BitVec.toNat_not]; omega
theorem four0 (r : BitVec 32) : (r.toNat : Int) / (16777216 : Int) = ((⟨(r >>> 24).setWidth 8⟩ : UInt8).toNat : Int) := by
 have := r.isLt
 show _ = (((r >>> 24).setWidth 8).toNat : Int)
 rw [BitVec.toNat_setWidth, BitVec.toNat_ushiftRight, Nat.shiftRight_eq_div_pow]; omega
theorem four1 (r : BitVec 32) : (r.toNat : Int) / (65536 : Int) % (256 : Int) = ((⟨(r >>> 16).setWidth 8⟩ : UInt8).toNat : Int) := by
 show _ = (((r >>> 16).setWidth 8).toNat : Int)
 rw [BitVec.toNat_setWidth, BitVec.toNat_ushiftRight, Nat.shiftRight_eq_div_pow]; omega
theorem four2 (r : BitVec 32) : (r.toNat : Int) / (256 : Int) % (256 : Int) = ((⟨(r >>> 8).setWidth 8⟩ : UInt8).toNat : Int) := by
 show _ = (((r >>> 8).setWidth 8).toNat : Int)
 rw [BitVec.toNat_setWidth, BitVec.toNat_ushiftRight, Nat.shiftRight_eq_div_pow]; omega
theorem four3 (r : BitVec 32) : (r.toNat : Int) % 256 = ((⟨r.setWidth 8⟩ : UInt8).toNat : Int) := by
 show _ = ((r.setWidth 8).toNat : Int)
 rw [BitVec.toNat_setWidth]; omega
end Crc
theorem conv4 (w : World) (a b c d : Int) (l0 l1 l2 l3 : UInt8) (ha : a = l0.toNat) (hb : b = l1.toNat) (hc : c = l2.toNat) (hd : d = l3.toNat) :
  (convert 75 9 (.slice (some ⟨w.heap.size, 0, none⟩) 4 4)).run Tryz.prog (w.alloc (.cells #[.int .u8 a, .int .u8 b, .int .u8 c, .int .u8 d] 5)) =
   .ok (.string (bs [l0, l1, l2, l3])) (w.alloc (.cells #[.int .u8 a, .int .u8 b, .int .u8 c, .int .u8 d] 5)) := by
 subst ha hb hc hd
 have h := run_convert_bs (P := Tryz.prog) (w.alloc (.cells #[.int .u8 l0.toNat, .int .u8 l1.toNat, .int .u8 l2.toNat, .int .u8 l3.toNat] 5)) 75 9 5 ⟨w.heap.size, 0, none⟩ 4 [l0, l1, l2, l3]
  Tryz.underlying75 Tryz.underlying5 Tryz.underlying9 (fun j hj => by
   have hb := Blk.new w 5 #[.int .u8 (l0.toNat : Int), .int .u8 (l1.toNat : Int), .int .u8 (l2.toNat : Int), .int .u8 (l3.toNat : Int)]
   have hadd : (⟨w.heap.size, 0, none⟩ : Addr).add j = ⟨w.heap.size, j, none⟩ := by unfold Addr.add; split <;> simp_all
   rw [hadd, hb.cell]
   match j, hj with
   | 0, _ => rfl
   | 1, _ => rfl
   | 2, _ => rfl
   | 3, _ => rfl)
 exact h
set_option maxHeartbeats 400000 in
theorem sum_any (l : List UInt8) (w : World) (hs : l.length ≤ 9223372036854775807) :
  Calls Tryz.prog 148 #[.string (bs l)] w fun e w' => e = .returned (.int .u32 (Crc.sum l).toNat) ∧ w = w' := by
 go_enter Tryz.func148, Tryz.ntmps148
 go_wp2_with (go_at_call 198; refine (feed_any Crc.start _ _ hs).mono ?_; rintro e w' ⟨rfl, rfl⟩)
 all_goals
  go_ret
  first | exact ⟨ret_of (Crc.int_not _), rfl⟩ | contradiction
set_option maxHeartbeats 400000 in
theorem refsum_any (l : List UInt8) (w : World) (hs : l.length ≤ 9223372036854775807) :
  Calls Tryz.prog 153 #[.string (bs l)] w fun e w' => e = .returned (.int .u32 (Crc.sum l).toNat) ∧ w = w' := by
 go_enter Tryz.func153, Tryz.ntmps153
 go_wp2_with (go_at_call 201; refine (reffeed_any Crc.start _ _ hs).mono ?_; rintro e w' ⟨rfl, rfl⟩)
 go_ret
 exact ⟨ret_of (Crc.int_not' _), rfl⟩
set_option maxHeartbeats 400000 in
theorem four_any (r : BitVec 32) (w : World) :
  Calls Tryz.prog 203 #[.int .u32 r.toNat] w fun e w' => e = .returned (.string (bs (Crc.four r))) ∧ Below w.heap.size w w' := by
 have hc := conv4 w _ _ _ _ _ _ _ _ (Crc.four0 r) (Crc.four1 r) (Crc.four2 r) (Crc.four3 r)
 go_enter Tryz.func203, Tryz.ntmps203
 go_wp2
 go_ret
 exact ⟨rfl, (Below.refl _ _).alloc (Nat.le_refl _) _⟩
set_option maxHeartbeats 400000 in
theorem seal_any (l : List UInt8) (w : World) (hs : l.length ≤ 1048576) :
  Calls Tryz.prog 157 #[.string (bs l)] w fun e w' => e = .returned (.string (bs (Crc.sealed l))) ∧ Below w.heap.size w w' := by
 have hf : (Crc.four (Crc.sum l)).length ≤ 4 := Nat.le_refl 4
 have hx : Crc.sealed l = l ++ Crc.four (Crc.sum l) := rfl
 have HX := Lib.hid hx; clear hx
 go_enter Tryz.func157, Tryz.ntmps157
 go_wp2_with (first
  | (go_at_call 148; refine (sum_any _ _ (by omega)).mono ?_; rintro e w' ⟨rfl, rfl⟩)
  | (go_at_call 203; refine (four_any _ _).mono ?_; rintro e w' ⟨rfl, hb⟩))
 go_ret
 exact ⟨by rw [HX.out]; rfl, hb⟩
set_option maxHeartbeats 400000 in
theorem refseal_any (l : List UInt8) (w : World) (hs : l.length ≤ 1048576) :
  Calls Tryz.prog 152 #[.string (bs l)] w fun e w' => e = .returned (.string (bs (Crc.sealed l))) ∧ Below w.heap.size w w' := by
 have hx : Crc.sealed l = l ++ Crc.four (Crc.sum l) := rfl
 have HX := Lib.hid hx; clear hx
 have hc := conv4 w _ _ _ _ _ _ _ _ (Crc.four0 (Crc.sum l)) (Crc.four1 (Crc.sum l)) (Crc.four2 (Crc.sum l)) (Crc.four3 (Crc.sum l))
 go_enter Tryz.func152, Tryz.ntmps152
 go_wp2_with (go_at_call 153; refine (refsum_any _ _ (by omega)).mono ?_; rintro e w' ⟨rfl, rfl⟩)
 go_ret
 exact ⟨by rw [HX.out]; rfl, (Below.refl _ _).alloc (Nat.le_refl _) _⟩
set_option maxHeartbeats 400000 in
theorem open_short (l : List UInt8) (w : World) (h4 : l.length < 4) :
  Calls Tryz.prog 191 #[.string (bs l)] w fun e w' => e = .returned (.tuple #[.string (bs []), .int .i64 3]) ∧ Below w.heap.size w w' := by
 go_enter Tryz.func191, Tryz.ntmps191
 go_wp2
 go_ret2
 exact ⟨rfl, Below.refl _ _⟩
set_option maxHeartbeats 400000 in
theorem open_no (l : List UInt8) (w : World) (hs : l.length ≤ 1048576) (h4 : (4 : Int) ≤ l.length) (hq : (Crc.four (Crc.sum (l.take (l.length - 4))) == l.drop (l.length - 4)) = false) :
  Calls Tryz.prog 191 #[.string (bs l)] w fun e w' => e = .returned (.tuple #[.string (bs []), .int .i64 10]) ∧ Below w.heap.size w w' := by
 have hi : (l.length : Int) - 4 ≤ l.length := by omega
 have hj : ((l.length : Int) - 4).toNat = l.length - 4 := by omega
 have hl : (l.take (l.length - 4)).length ≤ 1048576 := Nat.le_trans (List.length_take_le _ _) (by omega)
 go_enter Tryz.func191, Tryz.ntmps191
 go_wp2
 go_region_with (first
  | (go_at_call 148; refine (sum_any _ _ (by omega)).mono ?_; rintro e w' ⟨rfl, rfl⟩)
  | (go_at_call 203; refine (four_any _ _).mono ?_; rintro e w' ⟨rfl, hb⟩))
 go_wp2
 go_ret2
 exact ⟨rfl, (Below.refl _ _).drew.trans hb⟩
set_option maxHeartbeats 400000 in
theorem open_yes (l : List UInt8) (w : World) (hs : l.length ≤ 1048576) (h4 : (4 : Int) ≤ l.length) (hq : (Crc.four (Crc.sum (l.take (l.length - 4))) == l.drop (l.length - 4)) = true) :
  Calls Tryz.prog 191 #[.string (bs l)] w fun e w' => e = .returned (.tuple #[.string (bs (l.take (l.length - 4))), .int .i64 0]) ∧ Below w.heap.size w w' := by
 have hi : (l.length : Int) - 4 ≤ l.length := by omega
 have hj : ((l.length : Int) - 4).toNat = l.length - 4 := by omega
 have hl : (l.take (l.length - 4)).length ≤ 1048576 := Nat.le_trans (List.length_take_le _ _) (by omega)
 go_enter Tryz.func191, Tryz.ntmps191
 go_wp2
 go_region_with (first
  | (go_at_call 148; refine (sum_any _ _ (by omega)).mono ?_; rintro e w' ⟨rfl, rfl⟩)
  | (go_at_call 203; refine (four_any _ _).mono ?_; rintro e w' ⟨rfl, hb⟩))
 go_wp2
 go_ret2
 exact ⟨rfl, (Below.refl _ _).drew.trans hb⟩
theorem open_any (l : List UInt8) (w : World) (hs : l.length ≤ 1048576) :
  Calls Tryz.prog 191 #[.string (bs l)] w fun e w' => e = .returned (.tuple #[.string (bs (Crc.opened l).1), .int .i64 (Crc.opened l).2]) ∧ Below w.heap.size w w' := by
 by_cases h4 : l.length < 4
 ·rw [Crc.opened_short h4]; exact open_short l w h4
 ·cases hq : (Crc.four (Crc.sum (l.take (l.length - 4))) == l.drop (l.length - 4))
  ·rw [Crc.opened_no h4 hq]; exact open_no l w hs (by omega) hq
  ·rw [Crc.opened_yes h4 hq]; exact open_yes l w hs (by omega) hq
end Go.Proofs.YtbaedepmogkkeaaGreat
