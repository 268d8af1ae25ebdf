/- More functions of crc and of its reference, walked. -/
import Derived.Test.YtdicpbecdhaphaaCrcWalks1
import Derived.Deep.WholeRow
namespace Go.Proofs.Ytdicpbecdhaphaa
set_option linter.unusedSimpArgs false
set_option linter.unusedVariables false
open Go.RowKit

namespace Crc
theorem int_not (a : BitVec 32) : bits .xor .u32 IntKind.u32.max (a.toNat : Int) = ((~~~ a).toNat : Int) := by
  have h : bits .xor .u32 ((start.toNat : Nat) : Int) (a.toNat : Int) = ((start ^^^ a).toNat : Int) := int_xor start a
  have e : start ^^^ a = ~~~ a := by rw [start_not, BitVec.xor_comm]
  rw [e] at h
  exact h
theorem int_not' (a : BitVec 32) : 4294967295 - (a.toNat : Int) = ((~~~ a).toNat : Int) := by
  have := a.isLt
  rw [BitVec.toNat_not]; omega
theorem byte_of_nat (n : Nat) (b : UInt8) (h : n % 256 = b.toNat) : ((n : Int) % 256) = (b.toNat : Int) := by omega
theorem four0 (r : BitVec 32) : (r.toNat : Int) / (16777216 : Int) = ((⟨(r >>> 24).setWidth 8⟩ : UInt8).toNat : Int) := by
  have := r.isLt
  show _ = (((r >>> 24).setWidth 8).toNat : Int)
  rw [BitVec.toNat_setWidth, BitVec.toNat_ushiftRight, Nat.shiftRight_eq_div_pow]; omega
theorem four1 (r : BitVec 32) : (r.toNat : Int) / (65536 : Int) % (256 : Int) = ((⟨(r >>> 16).setWidth 8⟩ : UInt8).toNat : Int) := by
  show _ = (((r >>> 16).setWidth 8).toNat : Int)
  rw [BitVec.toNat_setWidth, BitVec.toNat_ushiftRight, Nat.shiftRight_eq_div_pow]; omega
theorem four2 (r : BitVec 32) : (r.toNat : Int) / (256 : Int) % (256 : Int) = ((⟨(r >>> 8).setWidth 8⟩ : UInt8).toNat : Int) := by
  show _ = (((r >>> 8).setWidth 8).toNat : Int)
  rw [BitVec.toNat_setWidth, BitVec.toNat_ushiftRight, Nat.shiftRight_eq_div_pow]; omega
theorem four3 (r : BitVec 32) : (r.toNat : Int) % 256 = ((⟨r.setWidth 8⟩ : UInt8).toNat : Int) := by
  show _ = ((r.setWidth 8).toNat : Int)
  rw [BitVec.toNat_setWidth]; omega
end Crc

/-- 'string(b)' of four bytes that were laid just now. -/
theorem conv4 (w : World) (a b c d : Int) (l0 l1 l2 l3 : UInt8) (ha : a = l0.toNat) (hb : b = l1.toNat) (hc : c = l2.toNat) (hd : d = l3.toNat) :
    (convert 56 9 (.slice (some ⟨w.heap.size, 0, none⟩) 4 4)).run Try.prog (w.alloc (.cells #[.int .u8 a, .int .u8 b, .int .u8 c, .int .u8 d] 5)) =
      .ok (.string (bs [l0, l1, l2, l3])) (w.alloc (.cells #[.int .u8 a, .int .u8 b, .int .u8 c, .int .u8 d] 5)) := by
  subst ha hb hc hd
  have h := run_convert_bs (P := Try.prog) (w.alloc (.cells #[.int .u8 l0.toNat, .int .u8 l1.toNat, .int .u8 l2.toNat, .int .u8 l3.toNat] 5)) 56 9 5 ⟨w.heap.size, 0, none⟩ 4 [l0, l1, l2, l3]
    Try.underlying56 Try.underlying5 Try.underlying9 (fun j hj => by
      have hb := Blk.new w 5 #[.int .u8 (l0.toNat : Int), .int .u8 (l1.toNat : Int), .int .u8 (l2.toNat : Int), .int .u8 (l3.toNat : Int)]
      have hadd : (⟨w.heap.size, 0, none⟩ : Addr).add j = ⟨w.heap.size, j, none⟩ := by unfold Addr.add; split <;> simp_all
      rw [hadd, hb.cell]
      match j, hj with
      | 0, _ => rfl
      | 1, _ => rfl
      | 2, _ => rfl
      | 3, _ => rfl)
  exact h

set_option maxHeartbeats 400000 in
theorem sum_any (l : List UInt8) (w : World) (hs : l.length ≤ 9223372036854775807) :
    Calls Try.prog 98 #[.string (bs l)] w fun e w' => e = .returned (.int .u32 (Crc.sum l).toNat) ∧ w = w' := by
  go_enter Try.func98, Try.ntmps98
  go_wp2_with (go_at_call 117; refine (feed_any Crc.start _ _ hs).mono ?_; rintro e w' ⟨rfl, rfl⟩)
  all_goals
    go_ret
    first | exact ⟨ret_of (Crc.int_not _), rfl⟩ | contradiction

set_option maxHeartbeats 400000 in
theorem four_any (r : BitVec 32) (w : World) :
    Calls Try.prog 97 #[.int .u32 r.toNat] w fun e w' => e = .returned (.string (bs (Crc.four r))) ∧ Below w.heap.size w w' := by
  have hc := conv4 w _ _ _ _ _ _ _ _ (Crc.four0 r) (Crc.four1 r) (Crc.four2 r) (Crc.four3 r)
  go_enter Try.func97, Try.ntmps97
  go_wp2
  go_ret
  exact ⟨rfl, (Below.refl _ _).alloc (Nat.le_refl _) _⟩
end Go.Proofs.Ytdicpbecdhaphaa
