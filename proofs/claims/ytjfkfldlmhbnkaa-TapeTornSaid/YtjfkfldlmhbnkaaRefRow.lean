/- quill: the reference's row, walked. No conditions but that lengths stay far below what memory holds. -/
import Derived.Test.YtjfkfldlmhbnkaaQuillWalks2
import Derived.Test.YtjfkfldlmhbnkaaVals
namespace Go.Proofs.Ytjfkfldlmhbnkaa
set_option linter.unusedSimpArgs false
set_option linter.unusedVariables false
open Go.RowKit

set_option maxHeartbeats 400000 in
theorem refrow_any (A : Option Addr) (n c : Nat) (l s : List UInt8) (w : World) (base : Nat) (hr : RdB w A n l) (hn : n ≤ 17592186044416) (hs : s.length ≤ 65535) (hb : base ≤ w.heap.size) :
    Calls Try.prog 68 #[.slice A n c, .string (bs s)] w (RetBE base w (l ++ Quill.rowB s) 0) := by
  have HR := Lib.hid hr; clear hr
  go_enter Try.func68, Try.ntmps68
  go_wp2_with fail
  refine (refnum_any A n c 2 s.length l _ base HR.out (by omega) (by omega) (by omega) (by omega) hb).mono ?_; rintro e w2 ⟨A2, n2, c2, rfl, ho2, hb2⟩
  have hz2 : base ≤ w2.heap.size := Nat.le_trans hb hb2.size
  have hn2 : n2 = n + 2 := by rw [← ho2.1, List.length_append, Quill.numB_length, HR.out.1]
  subst hn2
  have HO2 := Lib.hid ho2; clear ho2
  go_wp2_with (at_builtin; refine wpList_appS _ rfl _ _ rfl base rfl HO2.out rfl (by omega) hz2 ?_)
  intro A3 c3 w3 ho3 hg3
  go_wp2_with fail
  go_ret2
  have h := ho3.out
  rw [cat, List.append_assoc] at h
  exact ⟨_, _, _, rfl, h, hb2.trans (grown_below HO2.out hg3 hz2)⟩

end Go.Proofs.Ytjfkfldlmhbnkaa
