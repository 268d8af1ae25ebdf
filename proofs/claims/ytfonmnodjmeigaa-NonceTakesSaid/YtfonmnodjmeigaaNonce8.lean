/- nonce: taking many, by the reference. No conditions but that there are a thousand at most. -/
import Derived.Test.YtfonmnodjmeigaaNonce6
import Derived.Test.YtfonmnodjmeigaaNonce3
namespace Go.Proofs.Ytfonmnodjmeigaa.Av
set_option maxHeartbeats 1000000
open Go Go.RowKit
set_option linter.unusedVariables false
set_option linter.unusedSimpArgs false
set_option maxRecDepth 100000

theorem many_arg (e n : Nat) (k : Int) (h : k < 0 ∨ 1000 < k) : SP 43 [cnt e n, Z k] (.tup [nilA, cnt e n, Z 2]) := by
  refine S_ Try.func43 (by kernel_rfl) rfl (Nat.le_of_ble_eq_true rfl) ?_
  show avc Try.prog SP _ _ _ _ _ _
  dsimp only [avc, startS, Array.toList, Try.f43]
  refine And.intro (fun h1 => ?_) (fun h1 => ?_)
  · repeat' (first | (refine And.intro (fun _ => ?_) (fun h => Bool.noConfusion h)) | (refine And.intro (fun h => Bool.noConfusion h) (fun _ => ?_)) | (refine And.intro (Nat.le_of_ble_eq_true rfl) ?_))
    refine And.intro (fun h2 => ?_) (fun h2 => ?_)
    · have h1 : ¬ k < 0 := of_decide_eq_false h1
      have h2 : ¬ k > 1000 := of_decide_eq_false h2
      omega
    · repeat' (first | (refine And.intro (fun _ => ?_) (fun h => Bool.noConfusion h)) | (refine And.intro (fun h => Bool.noConfusion h) (fun _ => ?_)) | (refine And.intro (Nat.le_of_ble_eq_true rfl) ?_))
      refine ⟨[], [0,0,3,7], by kernel_rfl, ?_⟩
      repeat' (first | (refine And.intro (fun _ => ?_) (fun h => Bool.noConfusion h)) | (refine And.intro (fun h => Bool.noConfusion h) (fun _ => ?_)) | (refine And.intro (Nat.le_of_ble_eq_true rfl) ?_))
      repeat' (first | (exact True.intro) | (exact rfl) | (exact And.intro rfl (And.intro rfl rfl)) | (exact And.intro rfl rfl) | (refine And.intro (Nat.le_of_ble_eq_true rfl) ?_) | (refine And.intro ?_ ?_))
  · repeat' (first | (refine And.intro (fun _ => ?_) (fun h => Bool.noConfusion h)) | (refine And.intro (fun h => Bool.noConfusion h) (fun _ => ?_)) | (refine And.intro (Nat.le_of_ble_eq_true rfl) ?_))
    refine ⟨[], [0,0,3,7], by kernel_rfl, ?_⟩
    repeat' (first | (refine And.intro (fun _ => ?_) (fun h => Bool.noConfusion h)) | (refine And.intro (fun h => Bool.noConfusion h) (fun _ => ?_)) | (refine And.intro (Nat.le_of_ble_eq_true rfl) ?_))
    repeat' (first | (exact True.intro) | (exact rfl) | (exact And.intro rfl (And.intro rfl rfl)) | (exact And.intro rfl rfl) | (refine And.intro (Nat.le_of_ble_eq_true rfl) ?_) | (refine And.intro ?_ ?_))
theorem rmany_arg (e n : Nat) (k : Int) (h : k < 0 ∨ 1000 < k) : SP 44 [cnt e n, Z k] (.tup [nilA, cnt e n, Z 2]) := by
  refine S_ Try.func44 (by kernel_rfl) rfl (Nat.le_of_ble_eq_true rfl) ?_
  show avc Try.prog SP _ _ _ _ _ _
  dsimp only [avc, startS, Array.toList, Try.f44]
  refine And.intro (fun h1 => ?_) (fun h1 => ?_)
  · repeat' (first | (refine And.intro (fun _ => ?_) (fun h => Bool.noConfusion h)) | (refine And.intro (fun h => Bool.noConfusion h) (fun _ => ?_)) | (refine And.intro (Nat.le_of_ble_eq_true rfl) ?_))
    refine And.intro (fun h2 => ?_) (fun h2 => ?_)
    · have h1 : ¬ k < 0 := of_decide_eq_false h1
      have h2 : ¬ k > 1000 := of_decide_eq_false h2
      omega
    · repeat' (first | (refine And.intro (fun _ => ?_) (fun h => Bool.noConfusion h)) | (refine And.intro (fun h => Bool.noConfusion h) (fun _ => ?_)) | (refine And.intro (Nat.le_of_ble_eq_true rfl) ?_))
      refine ⟨[], [0,0,3,7], by kernel_rfl, ?_⟩
      repeat' (first | (refine And.intro (fun _ => ?_) (fun h => Bool.noConfusion h)) | (refine And.intro (fun h => Bool.noConfusion h) (fun _ => ?_)) | (refine And.intro (Nat.le_of_ble_eq_true rfl) ?_))
      repeat' (first | (exact True.intro) | (exact rfl) | (exact And.intro rfl (And.intro rfl rfl)) | (exact And.intro rfl rfl) | (refine And.intro (Nat.le_of_ble_eq_true rfl) ?_) | (refine And.intro ?_ ?_))
  · repeat' (first | (refine And.intro (fun _ => ?_) (fun h => Bool.noConfusion h)) | (refine And.intro (fun h => Bool.noConfusion h) (fun _ => ?_)) | (refine And.intro (Nat.le_of_ble_eq_true rfl) ?_))
    refine ⟨[], [0,0,3,7], by kernel_rfl, ?_⟩
    repeat' (first | (refine And.intro (fun _ => ?_) (fun h => Bool.noConfusion h)) | (refine And.intro (fun h => Bool.noConfusion h) (fun _ => ?_)) | (refine And.intro (Nat.le_of_ble_eq_true rfl) ?_))
    repeat' (first | (exact True.intro) | (exact rfl) | (exact And.intro rfl (And.intro rfl rfl)) | (exact And.intro rfl rfl) | (refine And.intro (Nat.le_of_ble_eq_true rfl) ?_) | (refine And.intro ?_ ?_))
theorem many_chk (e n k : Nat) (h : ¬ Okc e n) (hk : k ≤ 1000) : SP 43 [cnt e n, Z k] (.tup [nilA, cnt e n, Z 2]) := by
  refine S_ Try.func43 (by kernel_rfl) rfl (Nat.le_of_ble_eq_true rfl) ?_
  show avc Try.prog SP _ _ _ _ _ _
  dsimp only [avc, startS, Array.toList, Try.f43]
  refine And.intro (fun h1 => ?_) (fun h1 => ?_)
  rotate_left
  · exact absurd (of_decide_eq_true h1) (by omega)
  repeat' (first | (refine And.intro (fun _ => ?_) (fun h => Bool.noConfusion h)) | (refine And.intro (fun h => Bool.noConfusion h) (fun _ => ?_)) | (refine And.intro (Nat.le_of_ble_eq_true rfl) ?_))
  refine And.intro (fun h2 => ?_) (fun h2 => ?_)
  rotate_left
  · exact absurd (of_decide_eq_true h2) (by omega)
  repeat' (first | (refine And.intro (fun _ => ?_) (fun h => Bool.noConfusion h)) | (refine And.intro (fun h => Bool.noConfusion h) (fun _ => ?_)) | (refine And.intro (Nat.le_of_ble_eq_true rfl) ?_))
  refine ⟨_, check_no h, ?_⟩
  repeat' (first | (refine And.intro (fun _ => ?_) (fun h => Bool.noConfusion h)) | (refine And.intro (fun h => Bool.noConfusion h) (fun _ => ?_)) | (refine And.intro (Nat.le_of_ble_eq_true rfl) ?_))
  refine ⟨[], [0,0,3,7], by kernel_rfl, ?_⟩
  repeat' (first | (refine And.intro (fun _ => ?_) (fun h => Bool.noConfusion h)) | (refine And.intro (fun h => Bool.noConfusion h) (fun _ => ?_)) | (refine And.intro (Nat.le_of_ble_eq_true rfl) ?_))
  repeat' (first | (exact True.intro) | (exact rfl) | (exact And.intro rfl (And.intro rfl rfl)) | (exact And.intro rfl rfl) | (refine And.intro (Nat.le_of_ble_eq_true rfl) ?_) | (refine And.intro ?_ ?_))
theorem many_over (e n k : Nat) (h : Okc e n) (hk : k ≤ 1000) (hn : 281474976710656 < n + k) : SP 43 [cnt e n, Z k] (.tup [nilA, cnt e n, Z 19]) := by
  have w1 : IntKind.u64.wrap (k : Int) = k := wrap_u _ (by omega) (by omega)
  have hn2 : n ≤ 281474976710656 := h.2.2
  have w2 : IntKind.u64.wrap (281474976710656 - (n : Int)) = ((281474976710656 - n : Nat) : Int) := by rw [wrap_u (281474976710656 - (n : Int)) (by omega) (by omega)]; omega
  refine S_ Try.func43 (by kernel_rfl) rfl (Nat.le_of_ble_eq_true rfl) ?_
  show avc Try.prog SP _ _ _ _ _ _
  dsimp only [avc, startS, Array.toList, Try.f43]
  refine And.intro (fun h1 => ?_) (fun h1 => ?_)
  rotate_left
  · exact absurd (of_decide_eq_true h1) (by omega)
  repeat' (first | (refine And.intro (fun _ => ?_) (fun h => Bool.noConfusion h)) | (refine And.intro (fun h => Bool.noConfusion h) (fun _ => ?_)) | (refine And.intro (Nat.le_of_ble_eq_true rfl) ?_))
  refine And.intro (fun h2 => ?_) (fun h2 => ?_)
  rotate_left
  · exact absurd (of_decide_eq_true h2) (by omega)
  repeat' (first | (refine And.intro (fun _ => ?_) (fun h => Bool.noConfusion h)) | (refine And.intro (fun h => Bool.noConfusion h) (fun _ => ?_)) | (refine And.intro (Nat.le_of_ble_eq_true rfl) ?_))
  refine ⟨_, check_yes h, ?_⟩
  repeat' (first | (refine And.intro (fun _ => ?_) (fun h => Bool.noConfusion h)) | (refine And.intro (fun h => Bool.noConfusion h) (fun _ => ?_)) | (refine And.intro (Nat.le_of_ble_eq_true rfl) ?_))
  repeat' (refine ⟨_, rfl, ?_⟩)
  refine And.intro (fun h3 => ?_) (fun h3 => ?_)
  · refine ⟨[], [0,0,3,7], by kernel_rfl, ?_⟩
    repeat' (first | (refine And.intro (fun _ => ?_) (fun h => Bool.noConfusion h)) | (refine And.intro (fun h => Bool.noConfusion h) (fun _ => ?_)) | (refine And.intro (Nat.le_of_ble_eq_true rfl) ?_))
    repeat' (first | (exact True.intro) | (exact rfl) | (exact And.intro rfl (And.intro rfl rfl)) | (exact And.intro rfl rfl) | (refine And.intro (Nat.le_of_ble_eq_true rfl) ?_) | (refine And.intro ?_ ?_))
  · have h3 : ¬ IntKind.u64.wrap (281474976710656 - (n : Int)) < IntKind.u64.wrap (k : Int) := of_decide_eq_false h3
    rw [w1, w2] at h3
    omega
theorem rmany_chk (e n k : Nat) (h : ¬ Okc e n) (hk : k ≤ 1000) : SP 44 [cnt e n, Z k] (.tup [nilA, cnt e n, Z 2]) := by
  refine S_ Try.func44 (by kernel_rfl) rfl (Nat.le_of_ble_eq_true rfl) ?_
  show avc Try.prog SP _ _ _ _ _ _
  dsimp only [avc, startS, Array.toList, Try.f44]
  refine And.intro (fun h1 => ?_) (fun h1 => ?_)
  rotate_left
  · exact absurd (of_decide_eq_true h1) (by omega)
  repeat' (first | (refine And.intro (fun _ => ?_) (fun h => Bool.noConfusion h)) | (refine And.intro (fun h => Bool.noConfusion h) (fun _ => ?_)) | (refine And.intro (Nat.le_of_ble_eq_true rfl) ?_))
  refine And.intro (fun h2 => ?_) (fun h2 => ?_)
  rotate_left
  · exact absurd (of_decide_eq_true h2) (by omega)
  repeat' (first | (refine And.intro (fun _ => ?_) (fun h => Bool.noConfusion h)) | (refine And.intro (fun h => Bool.noConfusion h) (fun _ => ?_)) | (refine And.intro (Nat.le_of_ble_eq_true rfl) ?_))
  refine ⟨_, rcheck_no h, ?_⟩
  repeat' (first | (refine And.intro (fun _ => ?_) (fun h => Bool.noConfusion h)) | (refine And.intro (fun h => Bool.noConfusion h) (fun _ => ?_)) | (refine And.intro (Nat.le_of_ble_eq_true rfl) ?_))
  refine ⟨[], [0,0,3,7], by kernel_rfl, ?_⟩
  repeat' (first | (refine And.intro (fun _ => ?_) (fun h => Bool.noConfusion h)) | (refine And.intro (fun h => Bool.noConfusion h) (fun _ => ?_)) | (refine And.intro (Nat.le_of_ble_eq_true rfl) ?_))
  repeat' (first | (exact True.intro) | (exact rfl) | (exact And.intro rfl (And.intro rfl rfl)) | (exact And.intro rfl rfl) | (refine And.intro (Nat.le_of_ble_eq_true rfl) ?_) | (refine And.intro ?_ ?_))
theorem rmany_over (e n k : Nat) (h : Okc e n) (hk : k ≤ 1000) (hn : 281474976710656 < n + k) : SP 44 [cnt e n, Z k] (.tup [nilA, cnt e n, Z 19]) := by
  have w1 : IntKind.u64.wrap (k : Int) = k := wrap_u _ (by omega) (by omega)
  have hn2 : n ≤ 281474976710656 := h.2.2
  have w2 : IntKind.u64.wrap (281474976710656 - (k : Int)) = ((281474976710656 - k : Nat) : Int) := by rw [wrap_u (281474976710656 - (k : Int)) (by omega) (by omega)]; omega
  refine S_ Try.func44 (by kernel_rfl) rfl (Nat.le_of_ble_eq_true rfl) ?_
  show avc Try.prog SP _ _ _ _ _ _
  dsimp only [avc, startS, Array.toList, Try.f44]
  refine And.intro (fun h1 => ?_) (fun h1 => ?_)
  rotate_left
  · exact absurd (of_decide_eq_true h1) (by omega)
  repeat' (first | (refine And.intro (fun _ => ?_) (fun h => Bool.noConfusion h)) | (refine And.intro (fun h => Bool.noConfusion h) (fun _ => ?_)) | (refine And.intro (Nat.le_of_ble_eq_true rfl) ?_))
  refine And.intro (fun h2 => ?_) (fun h2 => ?_)
  rotate_left
  · exact absurd (of_decide_eq_true h2) (by omega)
  repeat' (first | (refine And.intro (fun _ => ?_) (fun h => Bool.noConfusion h)) | (refine And.intro (fun h => Bool.noConfusion h) (fun _ => ?_)) | (refine And.intro (Nat.le_of_ble_eq_true rfl) ?_))
  refine ⟨_, rcheck_yes h, ?_⟩
  repeat' (first | (refine And.intro (fun _ => ?_) (fun h => Bool.noConfusion h)) | (refine And.intro (fun h => Bool.noConfusion h) (fun _ => ?_)) | (refine And.intro (Nat.le_of_ble_eq_true rfl) ?_))
  repeat' (refine ⟨_, rfl, ?_⟩)
  refine And.intro (fun h3 => ?_) (fun h3 => ?_)
  · refine ⟨[], [0,0,3,7], by kernel_rfl, ?_⟩
    repeat' (first | (refine And.intro (fun _ => ?_) (fun h => Bool.noConfusion h)) | (refine And.intro (fun h => Bool.noConfusion h) (fun _ => ?_)) | (refine And.intro (Nat.le_of_ble_eq_true rfl) ?_))
    repeat' (first | (exact True.intro) | (exact rfl) | (exact And.intro rfl (And.intro rfl rfl)) | (exact And.intro rfl rfl) | (refine And.intro (Nat.le_of_ble_eq_true rfl) ?_) | (refine And.intro ?_ ?_))
  · have h3 : ¬ (n : Int) > IntKind.u64.wrap (281474976710656 - IntKind.u64.wrap (k : Int)) := of_decide_eq_false h3
    rw [w1, w2] at h3
    omega
end Go.Proofs.Ytfonmnodjmeigaa.Av
