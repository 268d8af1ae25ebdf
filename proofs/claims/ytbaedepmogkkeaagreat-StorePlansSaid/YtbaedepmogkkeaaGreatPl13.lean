/- What the claim stands on, Pl13: contracts of functions and plain facts. No conditions. -/
import Derived.Test.YtbaedepmogkkeaaGreatPl11
import Derived.Test.YtbaedepmogkkeaaGreatPl8
import Derived.Test.YtbaedepmogkkeaaGreatPl12
namespace Go.Proofs.YtbaedepmogkkeaaGreat
set_option linter.unusedSimpArgs false
set_option linter.unusedVariables false
set_option maxRecDepth 100000
open Go.RowKit
/-! ### texts -/
end Go.Proofs.YtbaedepmogkkeaaGreat
namespace Go.Proofs.YtbaedepmogkkeaaGreat
set_option linter.unusedSimpArgs false
set_option linter.unusedVariables false
set_option maxRecDepth 100000
open Go.RowKit Go.ChangeShapes Go.WideShapes
end Go.Proofs.YtbaedepmogkkeaaGreat
namespace Go.Proofs.YtbaedepmogkkeaaGreat
set_option linter.unusedSimpArgs false
set_option linter.unusedVariables false
open Go.RowKit
end Go.Proofs.YtbaedepmogkkeaaGreat
namespace Go.Proofs.YtbaedepmogkkeaaGreat.Quill
set_option linter.unusedSimpArgs false
set_option linter.unusedVariables false
theorem num_there (t a l r : List UInt8) (z : Nat) (ht : t = a ++ l ++ r) (hl : l.length = z) (h1 : 1 ≤ z) (h8 : z ≤ 8) :
  Sc.num ⟨t, (a.length : Int), 0⟩ (z : Int) = (tell l, ⟨t, ((a.length + z : Nat) : Int), 0⟩) := by
 have hlen : t.length = a.length + z + r.length := by rw [ht, List.length_append, List.length_append, hl]
 unfold Sc.num
 rw [if_neg (by simp), if_neg (by simp [Sc.stands]; omega), if_neg (by simp; omega)]
 have e : (t.drop a.length).take z = l := by
  rw [ht, List.append_assoc, List.drop_left', List.take_left']
  ·exact hl
  ·rfl
 simp only [Int.toNat_natCast, e]
 rw [Int.natCast_add]
theorem row_there (t a s r : List UInt8) (ht : t = a ++ rowB s ++ r) (hs : s.length ≤ 65535) :
  Sc.row ⟨t, (a.length : Int), 0⟩ = (s, ⟨t, ((a.length + (2 + s.length) : Nat) : Int), 0⟩) := by
 have hn := num_there t a (numB 2 s.length) (s ++ r) 2 (by rw [ht, rowB]; simp) (numB_length _ _) (by omega) (by omega)
 rw [tell_numB, Nat.mod_eq_of_lt (by omega)] at hn
 have hn' : Sc.num ⟨t, (a.length : Int), 0⟩ 2 = (s.length, ⟨t, ((a.length + 2 : Nat) : Int), 0⟩) := hn
 have hlen : t.length = a.length + (2 + s.length) + r.length := by rw [ht, List.length_append, List.length_append, rowB_length]
 unfold Sc.row
 rw [hn', if_neg (by simp), if_neg (by simp only; omega)]
 have e : (t.drop (a.length + 2)).take s.length = s := by
  have e1 : t = (a ++ numB 2 s.length) ++ (s ++ r) := by rw [ht, rowB]; simp
  rw [e1, List.drop_left' (by rw [List.length_append, numB_length]), List.take_left' rfl]
 simp only [Int.toNat_natCast, e]
 rw [← Int.natCast_add]
 congr 3
 omega
end Go.Proofs.YtbaedepmogkkeaaGreat.Quill
namespace Go.Proofs.YtbaedepmogkkeaaGreat
set_option linter.unusedSimpArgs false
set_option linter.unusedVariables false
open Go.RowKit
set_option maxHeartbeats 400000 in
theorem refrow_any (A : Option Addr) (n c : Nat) (l s : List UInt8) (w : World) (base : Nat) (hr : RdB w A n l) (hn : n ≤ 17592186044416) (hs : s.length ≤ 65535) (hb : base ≤ w.heap.size) :
  Calls Tryz.prog 132 #[.slice A n c, .string (bs s)] w (RetBE base w (l ++ Quill.rowB s) 0) := by
 have HR := Lib.hid hr; clear hr
 go_enter Tryz.func132, Tryz.ntmps132
 go_wp2_with fail
 refine (refnum_any A n c 2 s.length l _ base HR.out (by omega) (by omega) (by omega) (by omega) hb).mono ?_; rintro e w2 ⟨A2, n2, c2, rfl, ho2, hb2⟩
 have hz2 : base ≤ w2.heap.size := Nat.le_trans hb hb2.size
 have hn2 : n2 = n + 2 := by rw [← ho2.1, List.length_append, Quill.numB_length, HR.out.1]
 subst hn2
 have HO2 := Lib.hid ho2; clear ho2
 go_wp2_with (at_builtin; refine wpList_appS _ rfl _ _ rfl base rfl HO2.out rfl (by omega) hz2 ?_)
 intro A3 c3 w3 ho3 hg3
 go_wp2_with fail
 go_ret2
 have h := ho3.out
 rw [cat, List.append_assoc] at h
 exact ⟨_, _, _, rfl, h, hb2.trans (grown_below HO2.out hg3 hz2)⟩
end Go.Proofs.YtbaedepmogkkeaaGreat
