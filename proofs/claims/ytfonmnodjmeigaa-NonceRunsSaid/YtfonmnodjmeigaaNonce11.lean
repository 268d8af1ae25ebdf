/- nonce: the law's package is awake. No conditions. -/
import Derived.Test.YtfonmnodjmeigaaNonce10
import Derived.Test.YtfonmnodjmeigaaNonce9
import Derived.Test.YtfonmnodjmeigaaNonce7
namespace Go.Proofs.Ytfonmnodjmeigaa.Av
set_option maxHeartbeats 1000000
open Go Go.RowKit
set_option linter.unusedVariables false
set_option linter.unusedSimpArgs false
set_option maxRecDepth 100000

abbrev one12 : List UInt8 := [0, 0, 0, 0, 0, 1, 0, 0, 0, 0, 0, 0]
theorem one12_is : num12 1 0 = one12 := by decide
theorem awake_walk (x1 x2 : List UInt8)
    (hb : SP 38 [U 1] (.tup [cnt 1 0, Z 0])) (htk : SP 45 [cnt 1 0] (.tup [T one12, cnt 1 1, Z 0]))
    (hm : SP 43 [cnt 1 1, Z 2] (.tup [.own 9 2 [T x1, T x2], cnt 1 3, Z 0])) (hp : SP 36 [T one12] (.tup [cnt 1 0, Z 0]))
    (hb0 : SP 38 [U 0] (.tup [cnt 0 0, Z 2])) (hl : SP 41 [cnt 1 0, cnt 1 1] (B true)) (hl2 : SP 41 [cnt 1 1, cnt 1 0] (B false)) :
    SP 33 [] (B true) := by
  refine S_ Try.func33 (by kernel_rfl) rfl (Nat.le_of_ble_eq_true rfl) ?_
  show avc Try.prog SP _ _ _ _ _ _
  dsimp only [avc, startS, Array.toList, Try.f33]
  repeat' ((try conv => whnf) <;> (first | (refine Hold.mk ?_) | (refine And.intro (fun _ => ?_) (fun h => Bool.noConfusion h)) | (refine And.intro (fun h => Bool.noConfusion h) (fun _ => ?_)) | (refine And.intro (Nat.le_of_ble_eq_true rfl) ?_) | (refine And.intro (fun _ => ?_) (fun h => Bool.noConfusion ((beq_self_eq_true _).symm.trans h))) | (refine And.intro (fun h => Bool.noConfusion ((bne_self_eq_false _).symm.trans h)) (fun _ => ?_)) | (refine And.intro (fun h => Bool.noConfusion ((beq_self_eq_true _).symm.trans h)) (fun _ => ?_)) | (refine And.intro (fun _ => ?_) (fun h => Bool.noConfusion ((bne_self_eq_false _).symm.trans h))) | (refine ⟨_, hb, ?_⟩) | (refine ⟨_, htk, ?_⟩) | (refine ⟨_, hm, ?_⟩) | (refine ⟨_, hp, ?_⟩) | (refine ⟨_, hb0, ?_⟩) | (refine ⟨_, hl, ?_⟩) | (refine ⟨_, hl2, ?_⟩) | (refine ⟨1, ⟨by omega, rfl⟩, ?_⟩) | (exact True.intro) | (refine And.intro (show eqT _ _ = true by kernel_rfl) ?_) | (refine And.intro rfl ?_) | (refine And.intro (And.intro (Nat.le_of_ble_eq_true rfl) rfl) ?_) | (refine And.intro (And.intro rfl (And.intro rfl rfl)) ?_) | (exact And.intro rfl (And.intro rfl rfl)) | (exact And.intro rfl rfl) | (refine br_lt ?_ ?_ <;> intro hBr <;> (first | (exfalso; omega) | (exfalso; contradiction) | (exfalso; exact hBr rfl) | skip)) | (refine br_lt_ ?_ ?_ <;> intro hBr <;> (first | (exfalso; omega) | (exfalso; contradiction) | (exfalso; exact hBr rfl) | skip)) | (refine br_le ?_ ?_ <;> intro hBr <;> (first | (exfalso; omega) | (exfalso; contradiction) | (exfalso; exact hBr rfl) | skip)) | (refine br_le_ ?_ ?_ <;> intro hBr <;> (first | (exfalso; omega) | (exfalso; contradiction) | (exfalso; exact hBr rfl) | skip)) | (refine br_eq ?_ ?_ <;> intro hBr <;> (first | (exfalso; omega) | (exfalso; contradiction) | (exfalso; exact hBr rfl) | skip)) | (refine br_eq_ ?_ ?_ <;> intro hBr <;> (first | (exfalso; omega) | (exfalso; contradiction) | (exfalso; exact hBr rfl) | skip)) | (refine br_seq ?_ ?_ <;> intro hBr <;> (first | (exfalso; omega) | (exfalso; contradiction) | (exfalso; exact hBr rfl) | skip)) | (refine br_seq_ ?_ ?_ <;> intro hBr <;> (first | (exfalso; omega) | (exfalso; contradiction) | (exfalso; exact hBr rfl) | skip)) | (refine br_not ?_) | (refine br_not_ ?_) | (refine br_and ?_) | (refine br_and_ ?_) | (refine And.intro (by omega) ?_) | (refine ⟨_, wrap_i64 (by omega), ?_⟩) | (refine ⟨_, wrap_u64 (by omega) (by omega), ?_⟩) | (refine ⟨_, wrap_u8 (by omega) (by omega), ?_⟩) | (refine ⟨_, wrap_u32 (by omega) (by omega), ?_⟩) | (refine ⟨_, wrap_u16 (by omega) (by omega), ?_⟩) | (refine ⟨_, rfl, ?_⟩) | (exact rfl)))
theorem awake_ok : SP 33 [] (B true) := by
  have ok0 : Okc 1 0 := by unfold Okc; omega
  have h1 := take_yes 1 0 _ (by unfold U64; omega) (text_yes 1 0 ok0 (by omega))
  rw [one12_is] at h1
  have hp : Psd one12 := ⟨qf_12 rfl, by
    rw [q1_long (by decide), q2_long (by decide)]; decide⟩
  have h2 := parse_yes one12 (by decide) hp
  have e1 : (q1 one12).1 = 1 := by rw [q1_long (by decide)]; decide
  have e2 : (q2 one12).1 = 0 := by rw [q2_long (by decide)]; decide
  rw [e1, e2] at h2
  have h3 := many_yes 1 1 2 (by unfold Okc; omega) (by omega) (by omega)
  exact awake_walk _ _ (begin_yes 1 ok0) h1 h3 h2 (begin_no 0 (by unfold Okc; omega)) (less_ok 1 0 1 1) (less_ok 1 1 1 0)
end Go.Proofs.Ytfonmnodjmeigaa.Av
