/- nonce: taking many. No conditions but that there are a thousand at most. -/
import Derived.Test.YtfonmnodjmeigaaNonce2
namespace Go.Proofs.Ytfonmnodjmeigaa.Av
set_option maxHeartbeats 1000000
open Go Go.RowKit
set_option linter.unusedVariables false
set_option linter.unusedSimpArgs false
set_option maxRecDepth 100000

def texts (e n k : Nat) : List AV := (List.range k).map fun i => T (num12 e (n + i))
theorem texts_succ (e n k : Nat) : texts e n (k + 1) = texts e n k ++ [T (num12 e (n + k))] := by
  simp [texts, List.range_succ]
theorem room_k {k : Nat} (hk : k ≤ 1000) : room (k : Int).toNat (bytesT Try.prog 9) := by
  rw [show bytesT Try.prog 9 = 16 by kernel_rfl]; unfold room; omega
set_option maxHeartbeats 1000000 in
theorem many_yes (e n k : Nat) (h : Okc e n) (hk : k ≤ 1000) (hn : n + k ≤ 281474976710656) : SP 43 [cnt e n, Z k] (.tup [.own 9 k (texts e n k), cnt e (n + k), Z 0]) := by
  have w1 : IntKind.u64.wrap (k : Int) = k := wrap_u _ (by omega) (by omega)
  have w2 : IntKind.u64.wrap (281474976710656 - (n : Int)) = ((281474976710656 - n : Nat) : Int) := by rw [wrap_u _ (by omega) (by omega)]; omega
  have w3 : IntKind.u64.wrap ((n : Int) + IntKind.u64.wrap (k : Int)) = ((n + k : Nat) : Int) := by rw [w1, wrap_u _ (by omega) (by omega)]; omega
  refine S_ Try.func43 (by kernel_rfl) rfl (Nat.le_of_ble_eq_true rfl) ?_
  show avc Try.prog SP _ _ _ _ _ _
  dsimp only [avc, aops, startS, Array.toList, Try.f43]
  refine And.intro (fun h1 => ?_) (fun h1 => ?_)
  rotate_left
  · exact absurd (of_decide_eq_true h1) (by omega)
  repeat' (first | (refine And.intro (fun _ => ?_) (fun h => Bool.noConfusion h)) | (refine And.intro (fun h => Bool.noConfusion h) (fun _ => ?_)) | (refine And.intro (Nat.le_of_ble_eq_true rfl) ?_))
  refine And.intro (fun h2 => ?_) (fun h2 => ?_)
  rotate_left
  · exact absurd (of_decide_eq_true h2) (by omega)
  repeat' (first | (refine And.intro (fun _ => ?_) (fun h => Bool.noConfusion h)) | (refine And.intro (fun h => Bool.noConfusion h) (fun _ => ?_)) | (refine And.intro (Nat.le_of_ble_eq_true rfl) ?_))
  refine ⟨_, check_yes h, ?_⟩
  repeat' (first | (refine And.intro (fun _ => ?_) (fun h => Bool.noConfusion h)) | (refine And.intro (fun h => Bool.noConfusion h) (fun _ => ?_)) | (refine And.intro (Nat.le_of_ble_eq_true rfl) ?_))
  repeat' (refine ⟨_, rfl, ?_⟩)
  refine And.intro (fun h3 => ?_) (fun h3 => ?_)
  · have h3 : IntKind.u64.wrap (281474976710656 - (n : Int)) < IntKind.u64.wrap (k : Int) := of_decide_eq_true h3
    rw [w1, w2] at h3
    omega
  refine And.intro ⟨by omega, by omega, room_k hk⟩ ?_
  repeat' (first | (refine And.intro (fun _ => ?_) (fun h => Bool.noConfusion h)) | (refine And.intro (fun h => Bool.noConfusion h) (fun _ => ?_)) | (refine And.intro (Nat.le_of_ble_eq_true rfl) ?_))
  repeat' (refine ⟨_, rfl, ?_⟩)
  repeat' (first | (refine And.intro (fun _ => ?_) (fun h => Bool.noConfusion h)) | (refine And.intro (fun h => Bool.noConfusion h) (fun _ => ?_)) | (refine And.intro (Nat.le_of_ble_eq_true rfl) ?_))
  refine ⟨[7, 2, 8, 5], [], fun vs bs => ∃ i : Nat, i ≤ k ∧ (vs = [.sl 0 i, .ptr 1 0, .ptr 2 0, .ptr 3 0] ∧
      bs = [⟨texts e n i, some 9, false, true⟩, ⟨[U e, U ((n + i : Nat) : Int)], none, false, true⟩, ⟨[U e, U ((n + k : Nat) : Int)], none, false, true⟩, ⟨[U 0, U 0], none, false, true⟩]),
      fun vs bs => match vs with | [.sl _ i, _, _, _] => k - i | _ => 0, ?_, ?_⟩
  · refine ⟨0, by omega, rfl, ?_⟩
    rw [← w3]
    rfl
  rintro vs bs ⟨i, hi, rfl, rfl⟩
  refine And.intro (Nat.le_of_ble_eq_true rfl) ?_
  refine And.intro (Nat.le_of_ble_eq_true rfl) ?_
  refine And.intro (by kernel_rfl) ?_
  refine And.intro (fun h4 => ?_) (fun h4 => ?_)
  · have h4 : (!(((e : Int) == e) && ((((n + i : Nat) : Int) == ((n + k : Nat) : Int)) && true))) = true := h4
    have hik : i < k := by
      have : n + i ≠ n + k := by intro e1; rw [e1] at h4; simp at h4
      omega
    repeat' (first | (refine And.intro (fun _ => ?_) (fun h => Bool.noConfusion h)) | (refine And.intro (fun h => Bool.noConfusion h) (fun _ => ?_)) | (refine And.intro (Nat.le_of_ble_eq_true rfl) ?_))
    refine ⟨_, lay_ok e (n + i) (by unfold Okc at h; omega) (by omega), ?_⟩
    have hs1 : sizeT Try.prog 9 = 1 := by kernel_rfl
    have hw : IntKind.u64.wrap (((n + i : Nat) : Int) + 1) = ((n + (i + 1) : Nat) : Int) := by rw [wrap_u (((n + i : Nat) : Int) + 1) (by omega) (by omega)]; omega
    refine ⟨false, ?_⟩
    refine And.intro ⟨?_, ?_, ?_, ?_⟩ ?_
    · show room (i + 1) (bytesT Try.prog 9)
      rw [show bytesT Try.prog 9 = 16 by kernel_rfl]; unfold room; omega
    · show (texts e n i).length = i * sizeT Try.prog 9
      rw [hs1]; simp [texts]
    · show 1 = 1 * sizeT Try.prog 9
      rw [hs1]
    · intro v hv
      have hv : v ∈ [T (num12 e (n + i))] := hv
      rw [List.mem_singleton] at hv
      subst hv; rfl
    repeat' (first | (refine And.intro (fun _ => ?_) (fun h => Bool.noConfusion h)) | (refine And.intro (fun h => Bool.noConfusion h) (fun _ => ?_)) | (refine And.intro (Nat.le_of_ble_eq_true rfl) ?_))
    repeat' (refine ⟨_, rfl, ?_⟩)
    repeat' (first | (refine And.intro (fun _ => ?_) (fun h => Bool.noConfusion h)) | (refine And.intro (fun h => Bool.noConfusion h) (fun _ => ?_)) | (refine And.intro (Nat.le_of_ble_eq_true rfl) ?_))
    refine ⟨⟨i + 1, by omega, rfl, ?_⟩, (by omega : k - (i + 1) < k - i)⟩
    rw [texts_succ, ← hw]
    rfl
  · have h4 : (!(((e : Int) == e) && ((((n + i : Nat) : Int) == ((n + k : Nat) : Int)) && true))) = false := h4
    have hik : (i : Int) = k := by simpa using h4
    have hik : i = k := by omega
    subst hik
    refine ⟨[], [0,0,1,7,15], by kernel_rfl, ?_⟩
    repeat' (first | (refine And.intro (fun _ => ?_) (fun h => Bool.noConfusion h)) | (refine And.intro (fun h => Bool.noConfusion h) (fun _ => ?_)) | (refine And.intro (Nat.le_of_ble_eq_true rfl) ?_))
    repeat' (first | (exact True.intro) | (exact rfl) | (exact And.intro rfl (And.intro rfl rfl)) | (exact And.intro rfl rfl) | (refine And.intro (Nat.le_of_ble_eq_true rfl) ?_) | (refine And.intro ?_ ?_))
end Go.Proofs.Ytfonmnodjmeigaa.Av
