/- nonce: which count is ahead, by the reference. No conditions. -/
import Derived.Test.YtfonmnodjmeigaaNonce5
namespace Go.Proofs.Ytfonmnodjmeigaa.Av
set_option maxHeartbeats 1000000
open Go Go.RowKit
set_option linter.unusedVariables false
set_option linter.unusedSimpArgs false
set_option maxRecDepth 100000

theorem rless1 (a b c d : Nat) (h : a < c) : SP 42 [cnt a b, cnt c d] (B true) := by
  refine S_ Try.func42 (by kernel_rfl) rfl (Nat.le_of_ble_eq_true rfl) ?_
  show avc Try.prog SP _ _ _ _ _ _
  dsimp only [avc, startS, Array.toList, Try.f42]
  refine And.intro (fun h1 => ?_) (fun h1 => ?_)
  · have h1 : ¬ (a : Int) < c := of_decide_eq_false h1
    omega
  · repeat' (first | (refine And.intro (fun _ => ?_) (fun h => Bool.noConfusion h)) | (refine And.intro (fun h => Bool.noConfusion h) (fun _ => ?_)) | (refine And.intro (Nat.le_of_ble_eq_true rfl) ?_))
    exact rfl
theorem rless2 (a b d : Nat) : SP 42 [cnt a b, cnt a d] (B (decide ((b : Int) < d))) := by
  refine S_ Try.func42 (by kernel_rfl) rfl (Nat.le_of_ble_eq_true rfl) ?_
  show avc Try.prog SP _ _ _ _ _ _
  dsimp only [avc, startS, Array.toList, Try.f42]
  refine And.intro (fun h1 => ?_) (fun h1 => ?_)
  · repeat' (first | (refine And.intro (fun _ => ?_) (fun h => Bool.noConfusion h)) | (refine And.intro (fun h => Bool.noConfusion h) (fun _ => ?_)) | (refine And.intro (Nat.le_of_ble_eq_true rfl) ?_))
    refine And.intro (fun h2 => ?_) (fun h2 => ?_)
    · repeat' (first | (refine And.intro (fun _ => ?_) (fun h => Bool.noConfusion h)) | (refine And.intro (fun h => Bool.noConfusion h) (fun _ => ?_)) | (refine And.intro (Nat.le_of_ble_eq_true rfl) ?_))
      exact rfl
    · have h2 : ((a : Int) == a) = false := h2
      exact absurd h2 (by simp)
  · have h1 : (a : Int) < a := of_decide_eq_true h1
    omega
theorem rless3 (a b c d : Nat) (h : c < a) : SP 42 [cnt a b, cnt c d] (B false) := by
  refine S_ Try.func42 (by kernel_rfl) rfl (Nat.le_of_ble_eq_true rfl) ?_
  show avc Try.prog SP _ _ _ _ _ _
  dsimp only [avc, startS, Array.toList, Try.f42]
  refine And.intro (fun h1 => ?_) (fun h1 => ?_)
  · repeat' (first | (refine And.intro (fun _ => ?_) (fun h => Bool.noConfusion h)) | (refine And.intro (fun h => Bool.noConfusion h) (fun _ => ?_)) | (refine And.intro (Nat.le_of_ble_eq_true rfl) ?_))
    refine And.intro (fun h2 => ?_) (fun h2 => ?_)
    · have h2 : ((a : Int) == c) = true := h2
      have h2 : (a : Int) = c := by simpa using h2
      omega
    · repeat' (first | (refine And.intro (fun _ => ?_) (fun h => Bool.noConfusion h)) | (refine And.intro (fun h => Bool.noConfusion h) (fun _ => ?_)) | (refine And.intro (Nat.le_of_ble_eq_true rfl) ?_))
      exact rfl
  · have h1 : (a : Int) < c := of_decide_eq_true h1
    omega
theorem rless_ok (a b c d : Nat) : SP 42 [cnt a b, cnt c d] (B (lessB a b c d)) := by
  rw [less_eq]
  rcases Nat.lt_trichotomy a c with h | h | h
  · have e : decide (a < c ∨ (a = c ∧ b < d)) = true := by rw [decide_eq_true_eq]; omega
    rw [e]; exact rless1 a b c d h
  · subst h
    have e : decide (a < a ∨ (a = a ∧ b < d)) = decide ((b : Int) < d) := by congr 1; apply propext; omega
    rw [e]; exact rless2 a b d
  · have e : decide (a < c ∨ (a = c ∧ b < d)) = false := by rw [decide_eq_false_iff_not]; omega
    rw [e]; exact rless3 a b c d h
end Go.Proofs.Ytfonmnodjmeigaa.Av
