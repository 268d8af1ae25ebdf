/- The functions of crc and of its reference, walked: a byte's step, feeding, the sum. They return what the plain functions give, and leave the world as it was. No conditions but that texts are no longer than a text may be. -/
import Derived.Test.YtdicpbecdhaphaaChecked
import Derived.Test.YtdicpbecdhaphaaCrcPure
import Derived.WalkKit
import Derived.Test.YtdicpbecdhaphaaBase
namespace Go.Proofs.Ytdicpbecdhaphaa
set_option linter.unusedSimpArgs false
set_option linter.unusedVariables false
open Go.RowKit

namespace Crc
theorem int_xor (a b : BitVec 32) : bits .xor .u32 (a.toNat : Int) (b.toNat : Int) = ((a ^^^ b).toNat : Int) := by
  rw [u32_xor_nat _ _ a.isLt b.isLt, BitVec.toNat_xor]
theorem int_and (a b : BitVec 32) : bits .and .u32 (a.toNat : Int) (b.toNat : Int) = ((a &&& b).toNat : Int) := by
  rw [u32_and_nat _ _ a.isLt b.isLt, BitVec.toNat_and]
theorem int_byte (b : UInt8) : ((b.toNat : Int) % 4294967296) = ((b.toBitVec.setWidth 32).toNat : Int) := by
  have := b.toNat_lt
  rw [BitVec.toNat_setWidth, UInt8.toNat_toBitVec]
  omega
theorem int_half (a : BitVec 32) : (a.toNat : Int) / (2 : Int) = ((a >>> 1).toNat : Int) := by
  rw [BitVec.toNat_ushiftRight, Nat.shiftRight_eq_div_pow]; omega
theorem int_neg (a : BitVec 32) : (-(a.toNat : Int)) % 4294967296 = ((-a).toNat : Int) := by
  have := a.isLt
  rw [BitVec.toNat_neg]; omega
theorem bit_two (a : BitVec 32) : a.getLsbD 0 = (((a.toNat : Int) % 2) == 1) := by
  rw [BitVec.getLsbD]
  rw [Nat.testBit_zero, Bool.eq_iff_iff]; simp; omega
theorem shift_yes (a : BitVec 32) (h : (((a.toNat : Int) % 2) == 1) = true) : bits .xor .u32 ((a.toNat : Int) / 2) 3988292384 = ((shift a).toNat : Int) := by
  unfold shift
  rw [bit_two, h, int_half, if_pos rfl, ← int_xor]; rfl
theorem shift_no (a : BitVec 32) (h : (((a.toNat : Int) % 2) == 1) = false) : (a.toNat : Int) / 2 = ((shift a).toNat : Int) := by
  unfold shift
  rw [bit_two, h, int_half]; simp
/-- 'u & -(x & 1)' -/
theorem mask (u x : BitVec 32) : u &&& -(x &&& 1#32) = if x.getLsbD 0 then u else 0#32 := by
  have hx : x &&& 1#32 = if x.getLsbD 0 then 1#32 else 0#32 := by
    apply BitVec.eq_of_getLsbD_eq
    intro i hi
    rw [BitVec.getLsbD_and, BitVec.getLsbD_one]
    by_cases e : i = 0
    · subst e; cases x.getLsbD 0 <;> simp
    · have e' : ¬ i < 1 := by omega
      cases x.getLsbD 0 <;> simp [e]
  rw [hx]
  cases x.getLsbD 0
  · simp
  · rw [if_pos rfl, if_pos rfl, show -(1#32) = BitVec.allOnes 32 from by decide, BitVec.and_allOnes]
theorem shift_form (a : BitVec 32) : bits .xor .u32 ((a.toNat : Int) / 2) (bits .and .u32 3988292384 (-bits .and .u32 (a.toNat : Int) 1 % 4294967296)) = ((shift a).toNat : Int) := by
  have h1 : bits .and .u32 (a.toNat : Int) 1 = ((a &&& 1#32).toNat : Int) := int_and a 1#32
  rw [h1, int_neg, int_half]
  have h2 : bits .and .u32 3988292384 ((-(a &&& 1#32)).toNat : Int) = ((poly &&& -(a &&& 1#32)).toNat : Int) := int_and poly _
  rw [h2, int_xor, mask]; rfl
theorem byte_in (r : BitVec 32) (b : UInt8) : bits .xor .u32 (r.toNat : Int) ((b.toNat : Int) % 4294967296) = ((r ^^^ b.toBitVec.setWidth 32).toNat : Int) := by
  rw [int_byte, int_xor]


end Crc
set_option maxHeartbeats 400000 in
theorem step_any (r : BitVec 32) (b : UInt8) (w : World) :
    Calls Try.prog 118 #[.int .u32 r.toNat, .int .u8 b.toNat] w fun e w' => e = .returned (.int .u32 (Crc.step r b).toNat) ∧ w = w' := by
  go_enter Try.func118, Try.ntmps118
  go_wp2
  go_loop [0, 9] (fun t i => ∃ k : Nat, k ≤ 8 ∧ i = .int .i64 k ∧ t = .int .u32 (Crc.shiftN k (r ^^^ b.toBitVec.setWidth 32)).toNat) (fun _ i => 8 - (intOf i).toNat)
  case atStart => exact ⟨0, by omega, rfl, val_of (Crc.byte_in r b)⟩
  case round =>
    obtain ⟨k, hk, rfl, rfl⟩ := hrel
    generalize hx : Crc.shiftN k (r ^^^ b.toBitVec.setWidth 32) = x
    have HX := Lib.hid hx; clear hx
    by_cases hlt : k < 8
    · go_wp2
      go_round
      case rel => exact ⟨k + 1, by omega, by go_num, val_of (by rw [Crc.shift_form, Crc.shiftN, HX.out])⟩
      case measure => simp [intOf]; omega
    · go_wp2
      go_ret
      obtain rfl : k = 8 := by omega
      exact ⟨ret_of (by rw [← HX.out]; rfl), rfl⟩

namespace Crc
theorem feed_take (r : BitVec 32) (l : List UInt8) (k : Nat) (h : k < l.length) : feed r (l.take (k + 1)) = step (feed r (l.take k)) (byteAt l k) := by
  rw [take_snoc l k h, feed_snoc]
theorem feed_all (r : BitVec 32) (l : List UInt8) (k : Nat) (h : l.length ≤ k) : feed r (l.take k) = feed r l := by
  rw [List.take_of_length_le h]
end Crc

set_option maxHeartbeats 400000 in
theorem feed_any (r : BitVec 32) (l : List UInt8) (w : World) (hs : l.length ≤ 9223372036854775807) :
    Calls Try.prog 117 #[.int .u32 r.toNat, .string (bs l)] w fun e w' => e = .returned (.int .u32 (Crc.feed r l).toNat) ∧ w = w' := by
  go_enter Try.func117, Try.ntmps117
  go_wp2
  go_loop [0, 8] (fun t i => ∃ k : Nat, k ≤ l.length ∧ i = .int .i64 k ∧ t = .int .u32 (Crc.feed r (l.take k)).toNat) (fun _ i => l.length - (intOf i).toNat)
  case atStart => exact ⟨0, by omega, rfl, rfl⟩
  case round =>
    obtain ⟨k, hk, rfl, rfl⟩ := hrel
    by_cases hlt : k < l.length
    · have hx := Crc.feed_take r l k hlt
      generalize Crc.feed r (l.take k) = x at hx ⊢
      have HX := Lib.hid hx; clear hx
      go_wp2_with (go_at_call 118; refine (step_any _ _ _).mono ?_; rintro e w' ⟨rfl, rfl⟩)
      go_round
      case rel => exact ⟨k + 1, by omega, by go_num, val_of (by rw [HX.out])⟩
      case measure => simp [intOf]; omega
    · have hx := Crc.feed_all r l k (by omega)
      generalize Crc.feed r (l.take k) = x at hx ⊢
      have HX := Lib.hid hx; clear hx
      go_wp2
      go_ret
      exact ⟨ret_of (by rw [HX.out]), rfl⟩
end Go.Proofs.Ytdicpbecdhaphaa
