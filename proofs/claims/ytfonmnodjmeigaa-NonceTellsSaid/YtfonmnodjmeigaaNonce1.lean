/- nonce: counts that may be, their texts. No conditions but that numbers have 64 bits. -/
import Derived.Test.YtfonmnodjmeigaaAuto
namespace Go.Proofs.Ytfonmnodjmeigaa.Av
set_option maxHeartbeats 1000000
open Go Go.RowKit
set_option linter.unusedVariables false
set_option linter.unusedSimpArgs false
set_option maxRecDepth 100000

abbrev cnt (e n : Nat) : AV := .ex (.agg #[.int .u64 (e : Int), .int .u64 (n : Int)])
def Okc (e n : Nat) : Prop := 1 ≤ e ∧ e ≤ 1099511627776 ∧ n ≤ 281474976710656
instance (e n : Nat) : Decidable (Okc e n) := inferInstanceAs (Decidable (_ ∧ _ ∧ _))
def chk (e n : Nat) : Int := if Okc e n then 0 else 2

theorem check_ok (e n : Nat) : SP 40 [cnt e n] (Z (chk e n)) := by
  refine S_ Try.func40 (by kernel_rfl) rfl (Nat.le_of_ble_eq_true rfl) ?_
  show avc Try.prog SP _ _ _ _ _ _
  dsimp only [avc, aops, startS, Array.toList, Try.f40]
  refine And.intro (fun h1 => ?_) (fun h1 => ?_)
  · have h1 : ¬ ((e : Int) < 1) := of_decide_eq_false h1
    repeat' (first | (refine And.intro (fun _ => ?_) (fun h => Bool.noConfusion h)) | (refine And.intro (fun h => Bool.noConfusion h) (fun _ => ?_)) | (refine And.intro (Nat.le_of_ble_eq_true rfl) ?_))
    refine And.intro (fun h2 => ?_) (fun h2 => ?_)
    · have h2 : ¬ ((e : Int) > 1099511627776) := of_decide_eq_false h2
      repeat' (first | (refine And.intro (fun _ => ?_) (fun h => Bool.noConfusion h)) | (refine And.intro (fun h => Bool.noConfusion h) (fun _ => ?_)) | (refine And.intro (Nat.le_of_ble_eq_true rfl) ?_))
      refine And.intro (fun h3 => ?_) (fun h3 => ?_)
      · have h3 : ((n : Int) > 281474976710656) := of_decide_eq_true h3
        rw [show chk e n = 2 from if_neg (by unfold Okc; omega)]
        rfl
      · have h3 : ¬ ((n : Int) > 281474976710656) := of_decide_eq_false h3
        rw [show chk e n = 0 from if_pos (by unfold Okc; omega)]
        rfl
    · have h2 : ((e : Int) > 1099511627776) := of_decide_eq_true h2
      repeat' (first | (refine And.intro (fun _ => ?_) (fun h => Bool.noConfusion h)) | (refine And.intro (fun h => Bool.noConfusion h) (fun _ => ?_)) | (refine And.intro (Nat.le_of_ble_eq_true rfl) ?_))
      rw [show chk e n = 2 from if_neg (by unfold Okc; omega)]
      rfl
  · have h1 : ((e : Int) < 1) := of_decide_eq_true h1
    repeat' (first | (refine And.intro (fun _ => ?_) (fun h => Bool.noConfusion h)) | (refine And.intro (fun h => Bool.noConfusion h) (fun _ => ?_)) | (refine And.intro (Nat.le_of_ble_eq_true rfl) ?_))
    rw [show chk e n = 2 from if_neg (by unfold Okc; omega)]
    rfl
end Go.Proofs.Ytfonmnodjmeigaa.Av
