/- The law of quill on splits, walked. No conditions. -/
import Derived.Test.YtfonmnodjmeigaaQuillAwake
namespace Go.Proofs.Ytfonmnodjmeigaa
set_option linter.unusedVariables false
open Go.RowKit

theorem OwnT.small {w : World} {base : Nat} {A : Option Addr} {n c : Nat} {L : List (List UInt8)} (h : OwnT w base A n c L) : n ≤ 9223372036854775807 := by
  cases A with
  | none => have := h.2.none_; omega
  | some a =>
    obtain ⟨g, cur, _, _, _, h1, h2, _⟩ := h.2.row (by simp)
    simp only [maxLen] at h2
    omega

set_option maxHeartbeats 1000000 in
theorem quillSplits_walk (l : List UInt8) (w : World) (hl : l.length ≤ 9223372036854775807) :
    Calls Try.prog 4 #[.string (bs l)] w fun e w' => e = .returned (.bool true) ∧ Below w.heap.size w w' := by
  by_cases h4 : 400 < l.length
  · have h5 : (400 : Int) < (l.length : Int) := by omega
    go_enter Try.func4, Try.ntmps4
    go_wp2_with fail
    refine (qawake_any _).mono ?_; rintro e w1 ⟨rfl, hb1⟩
    go_wp2_with fail
    go_ret
    exact ⟨rfl, hb1⟩
  · have h5 : (l.length : Int) ≤ 400 := by omega
    go_enter Try.func4, Try.ntmps4
    go_wp2_with fail
    refine (ssplit l _ (by omega)).mono ?_; rintro e w1 ⟨A, n, c, rfl, h1, hb1⟩
    have HB := Lib.hid hb1
    have HO := Lib.hid h1; clear h1 hb1
    go_wp2_with fail
    refine (rsplit l _ (by omega)).mono ?_; rintro e w2 ⟨B, m, d, rfl, h2, hb2⟩
    have HR := Lib.hid (HO.out.rd.below hb2)
    have HS := Lib.hid h2.rd
    obtain rfl : n = m := by rw [← HR.out.1, ← HS.out.1]
    have hz := h2.small
    have HB2 := Lib.hid (below_chain HB.out hb2); clear HB hb2 HO h2
    go_wp2_with fail
    refine (same_yes _ _ _ _ _ _ _ HR.out HS.out hz).mono ?_; rintro e w3 ⟨rfl, hb3⟩
    have HB3 := Lib.hid (below_chain HB2.out hb3); clear HB2 hb3 HR HS
    go_wp2_with fail
    refine (qawake_any _).mono ?_; rintro e w4 ⟨rfl, hb4⟩
    go_wp2_with fail
    go_ret
    exact ⟨rfl, below_chain HB3.out hb4⟩
end Go.Proofs.Ytfonmnodjmeigaa
