/- quill: rows of texts, walked; the reference's; comparing lists of texts. No conditions but that lengths stay far below what memory holds. -/
import Derived.Test.YtbaedepmogkkeaaQuillWalks2
import Derived.Test.YtbaedepmogkkeaaVals
namespace Go.Proofs.Ytbaedepmogkkeaa
set_option linter.unusedSimpArgs false
set_option linter.unusedVariables false
open Go.RowKit

set_option maxHeartbeats 400000 in
theorem refnum_no (A : Option Addr) (n c x : Nat) (size : Int) (l : List UInt8) (w : World) (base : Nat) (hr : RdB w A n l) (h1 : size < 1 ∨ 8 < size) (hn : n ≤ 35184372088832) (hb : base ≤ w.heap.size) :
    Calls Try.prog 28 #[.slice A n c, .int .i64 size, .int .u64 x] w (RetB base w l) := by
  have HR := Lib.hid hr; clear hr
  rcases h1 with h1 | h1
  all_goals
    go_enter Try.func28, Try.ntmps28
    go_wp2_with (at_builtin; refine wpList_appB _ rfl _ _ rfl base rfl (OwnB.empty w base hb) rfl (HR.out.alloc _) (by omega) (by simp; omega) ?_)
    intro A1 c1 w1 ho1 hg1
    have hb1 : Below base w w1 := ((Below.refl base w).alloc hb _).trans (grown_below (OwnB.empty w base hb) hg1 (by simp; omega))
    clear hg1
    have ho1' : OwnB w1 base A1 n c1 l := by have h := ho1.out; rw [cat, List.nil_append] at h; exact h
    have HO := Lib.hid ho1'; clear ho1 ho1'
    go_wp2
    go_ret
    exact ⟨_, _, _, rfl, HO.out, hb1⟩

set_option maxHeartbeats 400000 in
theorem refrow_long (A : Option Addr) (n c : Nat) (s : List UInt8) (w : World) (base : Nat) (h : 65535 < s.length) (hb : base ≤ w.heap.size) :
    Calls Try.prog 29 #[.slice A n c, .string (bs s)] w (RetBE base w [] 5) := by
  go_enter Try.func29, Try.ntmps29
  go_wp2_with fail
  go_ret2
  exact ⟨_, _, _, rfl, OwnB.nil_ _ _, Below.refl _ _⟩

set_option maxHeartbeats 400000 in
theorem refrow_any (A : Option Addr) (n c : Nat) (l s : List UInt8) (w : World) (base : Nat) (hr : RdB w A n l) (hn : n ≤ 17592186044416) (hs : s.length ≤ 65535) (hb : base ≤ w.heap.size) :
    Calls Try.prog 29 #[.slice A n c, .string (bs s)] w (RetBE base w (l ++ Quill.rowB s) 0) := by
  have HR := Lib.hid hr; clear hr
  go_enter Try.func29, Try.ntmps29
  go_wp2_with fail
  refine (refnum_any A n c 2 s.length l _ base HR.out (by omega) (by omega) (by omega) (by omega) hb).mono ?_; rintro e w2 ⟨A2, n2, c2, rfl, ho2, hb2⟩
  have hz2 : base ≤ w2.heap.size := Nat.le_trans hb hb2.size
  have hn2 : n2 = n + 2 := by rw [← ho2.1, List.length_append, Quill.numB_length, HR.out.1]
  subst hn2
  have HO2 := Lib.hid ho2; clear ho2
  go_wp2_with (at_builtin; refine wpList_appS _ rfl _ _ rfl base rfl HO2.out rfl (by omega) hz2 ?_)
  intro A3 c3 w3 ho3 hg3
  go_wp2_with fail
  go_ret2
  have h := ho3.out
  rw [cat, List.append_assoc] at h
  exact ⟨_, _, _, rfl, h, hb2.trans (grown_below HO2.out hg3 hz2)⟩

theorem short_at {L : List (List UInt8)} {m : Nat} (h : ∀ s ∈ L, s.length ≤ m) {k : Nat} : (tAt L k).length ≤ m := by
  unfold tAt
  rcases Nat.lt_or_ge k L.length with hk | hk
  · rw [List.getElem?_eq_getElem hk]; exact h _ (List.getElem_mem hk)
  · rw [List.getElem?_eq_none hk]; simp

end Go.Proofs.Ytbaedepmogkkeaa
