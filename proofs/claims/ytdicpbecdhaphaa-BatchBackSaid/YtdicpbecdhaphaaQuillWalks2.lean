/- quill: Num and Row, walked; and the reference's. No conditions but that lengths stay far below what memory holds. -/
import Derived.Test.YtdicpbecdhaphaaQuillWalks1
namespace Go.Proofs.Ytdicpbecdhaphaa
set_option linter.unusedSimpArgs false
set_option linter.unusedVariables false
set_option maxRecDepth 100000
open Go.RowKit

/-- A slice of bytes of the call's own, and an error's number. -/
def RetBE (base : Nat) (w : World) (l : List UInt8) (n : Int) (e : Ending) (w' : World) : Prop :=
  ∃ A k c, e = .returned (.tuple #[.slice A k c, .int .i64 n]) ∧ OwnB w' base A k c l ∧ Below base w w'

set_option maxHeartbeats 400000 in
theorem row_long (A : Option Addr) (n c : Nat) (s : List UInt8) (w : World) (base : Nat) (h : 65535 < s.length) (hb : base ≤ w.heap.size) :
    Calls Try.prog 96 #[.slice A n c, .string (bs s)] w (RetBE base w [] 5) := by
  go_enter Try.func96, Try.ntmps96
  go_wp2_with fail
  go_ret2
  exact ⟨_, _, _, rfl, OwnB.nil_ _ _, Below.refl _ _⟩

set_option maxHeartbeats 400000 in
theorem row_any (A : Option Addr) (n c : Nat) (l s : List UInt8) (w : World) (base : Nat) (hr : RdB w A n l) (hn : n ≤ 17592186044416) (hs : s.length ≤ 65535) (hb : base ≤ w.heap.size) :
    Calls Try.prog 96 #[.slice A n c, .string (bs s)] w (RetBE base w (l ++ Quill.rowB s) 0) := by
  have HR := Lib.hid hr; clear hr
  go_enter Try.func96, Try.ntmps96
  go_wp2_with fail
  refine (grown_any A n c (2 + s.length) l _ base HR.out (by omega) (by omega) hb).mono ?_; rintro e w1 ⟨A1, n1, c1, rfl, ho1, hb1⟩
  have hz : base ≤ w1.heap.size := Nat.le_trans hb hb1.size
  have hn1 : n1 = n := by rw [← ho1.1, HR.out.1]
  subst hn1
  have HO := Lib.hid ho1; clear ho1
  go_wp2_with fail
  refine (lay_any A1 n1 c1 2 s.length l _ base HO.out (by omega) (by omega) (by omega) hz).mono ?_; rintro e w2 ⟨A2, n2, c2, rfl, ho2, hb2⟩
  have hz2 : base ≤ w2.heap.size := Nat.le_trans hz hb2.size
  have hn2 : n2 = n1 + 2 := by rw [← ho2.1, List.length_append, Quill.numB_length, HR.out.1]
  subst hn2
  have HO2 := Lib.hid ho2; clear ho2
  go_wp2_with (at_builtin; refine wpList_appS _ rfl _ _ rfl base rfl HO2.out rfl (by omega) hz2 ?_)
  intro A3 c3 w3 ho3 hg3
  go_wp2_with fail
  go_ret2
  have h := ho3.out
  rw [cat, List.append_assoc] at h
  exact ⟨_, _, _, rfl, h, (hb1.trans hb2).trans (grown_below HO2.out hg3 hz2)⟩

end Go.Proofs.Ytdicpbecdhaphaa
