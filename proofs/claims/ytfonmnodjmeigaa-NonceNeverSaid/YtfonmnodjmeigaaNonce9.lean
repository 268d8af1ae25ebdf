/- nonce: taking many, by the reference. No conditions but that there are a thousand at most. -/
import Derived.Test.YtfonmnodjmeigaaNonce8
namespace Go.Proofs.Ytfonmnodjmeigaa.Av
set_option maxHeartbeats 1000000
open Go Go.RowKit
set_option linter.unusedVariables false
set_option linter.unusedSimpArgs false
set_option maxRecDepth 100000

set_option maxHeartbeats 1000000 in
theorem rmany_yes (e n k : Nat) (h : Okc e n) (hk : k ≤ 1000) (hn : n + k ≤ 281474976710656) : SP 44 [cnt e n, Z k] (.tup [.own 9 k (texts e n k), cnt e (n + k), Z 0]) := by
  have w1 : IntKind.u64.wrap (k : Int) = k := wrap_u _ (by omega) (by omega)
  have w2 : IntKind.u64.wrap (281474976710656 - (k : Int)) = ((281474976710656 - k : Nat) : Int) := by rw [wrap_u (281474976710656 - (k : Int)) (by omega) (by omega)]; omega
  refine S_ Try.func44 (by kernel_rfl) rfl (Nat.le_of_ble_eq_true rfl) ?_
  show avc Try.prog SP _ _ _ _ _ _
  dsimp only [avc, startS, Array.toList, Try.f44]
  refine And.intro (fun h1 => ?_) (fun h1 => ?_)
  rotate_left
  · exact absurd (of_decide_eq_true h1) (by omega)
  repeat' (first | (refine And.intro (fun _ => ?_) (fun h => Bool.noConfusion h)) | (refine And.intro (fun h => Bool.noConfusion h) (fun _ => ?_)) | (refine And.intro (Nat.le_of_ble_eq_true rfl) ?_))
  refine And.intro (fun h2 => ?_) (fun h2 => ?_)
  rotate_left
  · exact absurd (of_decide_eq_true h2) (by omega)
  repeat' (first | (refine And.intro (fun _ => ?_) (fun h => Bool.noConfusion h)) | (refine And.intro (fun h => Bool.noConfusion h) (fun _ => ?_)) | (refine And.intro (Nat.le_of_ble_eq_true rfl) ?_))
  refine ⟨_, rcheck_yes h, ?_⟩
  repeat' (first | (refine And.intro (fun _ => ?_) (fun h => Bool.noConfusion h)) | (refine And.intro (fun h => Bool.noConfusion h) (fun _ => ?_)) | (refine And.intro (Nat.le_of_ble_eq_true rfl) ?_))
  repeat' (refine ⟨_, rfl, ?_⟩)
  refine And.intro (fun h3 => ?_) (fun h3 => ?_)
  · have h3 : (n : Int) > IntKind.u64.wrap (281474976710656 - IntKind.u64.wrap (k : Int)) := of_decide_eq_true h3
    rw [w1, w2] at h3
    omega
  refine ⟨[7, 8, 1, 2, 5], [(7, some 9)], fun vs bs => ∃ i : Nat, i ≤ k ∧ (vs = [.sl 0 i, Z i, Z k, .ptr 1 0, .ptr 2 0] ∧
      bs = [⟨texts e n i, some 9, false, true⟩, ⟨[U e, U ((n + i : Nat) : Int)], none, false, true⟩, ⟨[U 0, U 0], none, false, true⟩]),
      fun vs bs => match vs with | [.sl _ i, _, _, _, _] => k - i | _ => 0, ?_, ?_⟩
  · exact ⟨0, by omega, rfl, rfl⟩
  rintro vs bs ⟨i, hi, rfl, rfl⟩
  refine And.intro (fun h4 => ?_) (fun h4 => ?_)
  · have h4 : (i : Int) < k := of_decide_eq_true h4
    have hok : Okc e (n + i) := by unfold Okc at h ⊢; omega
    repeat' (first | (refine And.intro (fun _ => ?_) (fun h => Bool.noConfusion h)) | (refine And.intro (fun h => Bool.noConfusion h) (fun _ => ?_)) | (refine And.intro (Nat.le_of_ble_eq_true rfl) ?_))
    refine ⟨_, rtext_yes e (n + i) hok (by omega), ?_⟩
    have hs1 : sizeT Try.prog 9 = 1 := by kernel_rfl
    have hw : IntKind.u64.wrap (((n + i : Nat) : Int) + 1) = ((n + (i + 1) : Nat) : Int) := by rw [wrap_u (((n + i : Nat) : Int) + 1) (by omega) (by omega)]; omega
    refine ⟨false, ?_⟩
    refine And.intro ⟨?_, ?_, ?_, ?_⟩ ?_
    · show room (i + 1) (bytesT Try.prog 9)
      rw [show bytesT Try.prog 9 = 16 by kernel_rfl]; unfold room; omega
    · show (texts e n i).length = i * sizeT Try.prog 9
      rw [hs1]; simp [texts]
    · show 1 = 1 * sizeT Try.prog 9
      rw [hs1]
    · intro v hv
      have hv : v ∈ [T (num12 e (n + i))] := hv
      rw [List.mem_singleton] at hv
      subst hv; rfl
    repeat' (first | (refine And.intro (fun _ => ?_) (fun h => Bool.noConfusion h)) | (refine And.intro (fun h => Bool.noConfusion h) (fun _ => ?_)) | (refine And.intro (Nat.le_of_ble_eq_true rfl) ?_))
    repeat' (refine ⟨_, rfl, ?_⟩)
    repeat' (first | (refine And.intro (fun _ => ?_) (fun h => Bool.noConfusion h)) | (refine And.intro (fun h => Bool.noConfusion h) (fun _ => ?_)) | (refine And.intro (Nat.le_of_ble_eq_true rfl) ?_))
    refine And.intro (by unfold inR; omega) ?_
    refine ⟨⟨i + 1, by omega, rfl, ?_⟩, (by omega : k - (i + 1) < k - i)⟩
    rw [texts_succ, ← hw]
    rfl
  · have h4 : ¬ (i : Int) < k := of_decide_eq_false h4
    have hik : i = k := by omega
    subst hik
    refine ⟨[], [0,0,1,7,15], by kernel_rfl, ?_⟩
    repeat' (first | (refine And.intro (fun _ => ?_) (fun h => Bool.noConfusion h)) | (refine And.intro (fun h => Bool.noConfusion h) (fun _ => ?_)) | (refine And.intro (Nat.le_of_ble_eq_true rfl) ?_))
    repeat' (first | (exact True.intro) | (exact rfl) | (exact And.intro rfl (And.intro rfl rfl)) | (exact And.intro rfl rfl) | (refine And.intro (Nat.le_of_ble_eq_true rfl) ?_) | (refine And.intro ?_ ?_))
end Go.Proofs.Ytfonmnodjmeigaa.Av
