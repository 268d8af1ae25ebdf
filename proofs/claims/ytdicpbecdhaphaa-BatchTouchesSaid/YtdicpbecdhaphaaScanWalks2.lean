/- quill: the reference's scanning, walked: where a Scan stands, a number. -/
import Derived.Test.YtdicpbecdhaphaaScanWalks1
namespace Go.Proofs.Ytdicpbecdhaphaa
set_option linter.unusedSimpArgs false
set_option linter.unusedVariables false
set_option maxRecDepth 100000
open Go.RowKit

theorem byteAt_drop (t : List UInt8) (p k : Nat) : byteAt (t.drop p) k = byteAt t (p + k) := by
  simp [byteAt, List.getElem?_drop]
theorem tell_at (t : List UInt8) (p k : Nat) (h : p + k < t.length) :
    Quill.tell ((t.drop p).take (k + 1)) = Quill.tell ((t.drop p).take k) * 256 + (byteAt t (p + k)).toNat := by
  rw [take_snoc _ k (by rw [List.length_drop]; omega), Quill.tell_snoc, byteAt_drop]
theorem tell_small (l : List UInt8) (k : Nat) (hk : k ≤ 7) : Quill.tell (l.take k) < 72057594037927936 := by
  have h := Quill.tell_lt (l.take k)
  have h2 : (l.take k).length ≤ 7 := by rw [List.length_take]; omega
  have hp : 256 ^ (l.take k).length ≤ 256 ^ 7 := Nat.pow_le_pow_right (by omega) h2
  exact Nat.lt_of_lt_of_le h hp

end Go.Proofs.Ytdicpbecdhaphaa
