/- nonce: the reference's texts, parsing. No conditions but that texts are no longer than memory holds. -/
import Derived.Test.YtfonmnodjmeigaaNonce2
namespace Go.Proofs.Ytfonmnodjmeigaa.Av
set_option maxHeartbeats 1000000
open Go Go.RowKit
set_option linter.unusedVariables false
set_option linter.unusedSimpArgs false
set_option maxRecDepth 100000

theorem rtext_no (e n : Nat) (h : ¬ Okc e n) : SP 35 [cnt e n] (.tup [T [], Z 2]) := by
  refine S_ Try.func35 (by kernel_rfl) rfl (Nat.le_of_ble_eq_true rfl) ?_
  show avc Try.prog SP _ _ _ _ _ _
  dsimp only [avc, aops, startS, Array.toList, Try.f35]
  repeat' (first | (refine And.intro (fun _ => ?_) (fun h => Bool.noConfusion h)) | (refine And.intro (fun h => Bool.noConfusion h) (fun _ => ?_)) | (refine And.intro (Nat.le_of_ble_eq_true rfl) ?_))
  refine ⟨_, rcheck_no h, ?_⟩
  repeat' (first | (refine And.intro (fun _ => ?_) (fun h => Bool.noConfusion h)) | (refine And.intro (fun h => Bool.noConfusion h) (fun _ => ?_)) | (refine And.intro (Nat.le_of_ble_eq_true rfl) ?_))
  repeat' (first | (exact True.intro) | (exact rfl) | (exact And.intro rfl (And.intro rfl rfl)) | (exact And.intro rfl rfl) | (refine And.intro (Nat.le_of_ble_eq_true rfl) ?_) | (refine And.intro ?_ ?_))
theorem rtext_last (e n : Nat) (h : Okc e n) (hl : n = 281474976710656) : SP 35 [cnt e n] (.tup [T [], Z 19]) := by
  subst hl
  refine S_ Try.func35 (by kernel_rfl) rfl (Nat.le_of_ble_eq_true rfl) ?_
  show avc Try.prog SP _ _ _ _ _ _
  dsimp only [avc, aops, startS, Array.toList, Try.f35]
  repeat' (first | (refine And.intro (fun _ => ?_) (fun h => Bool.noConfusion h)) | (refine And.intro (fun h => Bool.noConfusion h) (fun _ => ?_)) | (refine And.intro (Nat.le_of_ble_eq_true rfl) ?_))
  refine ⟨_, rcheck_yes h, ?_⟩
  repeat' (first | (refine And.intro (fun _ => ?_) (fun h => Bool.noConfusion h)) | (refine And.intro (fun h => Bool.noConfusion h) (fun _ => ?_)) | (refine And.intro (Nat.le_of_ble_eq_true rfl) ?_))
  repeat' (first | (exact True.intro) | (exact rfl) | (exact And.intro rfl (And.intro rfl rfl)) | (exact And.intro rfl rfl) | (refine And.intro (Nat.le_of_ble_eq_true rfl) ?_) | (refine And.intro ?_ ?_))
theorem rtext_yes (e n : Nat) (h : Okc e n) (hl : n ≠ 281474976710656) : SP 35 [cnt e n] (.tup [T (num12 e n), Z 0]) := by
  have he : U64 e := by unfold Okc at h; omega
  have hn : U64 n := by unfold Okc at h; omega
  refine S_ Try.func35 (by kernel_rfl) rfl (Nat.le_of_ble_eq_true rfl) ?_
  show avc Try.prog SP _ _ _ _ _ _
  dsimp only [avc, aops, startS, Array.toList, Try.f35]
  repeat' (first | (refine And.intro (fun _ => ?_) (fun h => Bool.noConfusion h)) | (refine And.intro (fun h => Bool.noConfusion h) (fun _ => ?_)) | (refine And.intro (Nat.le_of_ble_eq_true rfl) ?_))
  refine ⟨_, rcheck_yes h, ?_⟩
  repeat' (first | (refine And.intro (fun _ => ?_) (fun h => Bool.noConfusion h)) | (refine And.intro (fun h => Bool.noConfusion h) (fun _ => ?_)) | (refine And.intro (Nat.le_of_ble_eq_true rfl) ?_))
  refine And.intro (fun h1 => ?_) (fun h1 => ?_)
  · exact absurd h1 (by simp; omega)
  repeat' (first | (refine And.intro (fun _ => ?_) (fun h => Bool.noConfusion h)) | (refine And.intro (fun h => Bool.noConfusion h) (fun _ => ?_)) | (refine And.intro (Nat.le_of_ble_eq_true rfl) ?_))
  refine ⟨[], [0,1,3,0,8,31,63,127,255], by kernel_rfl, ?_⟩
  refine ⟨_, rnum_snd [] e (by simp) he _ (.inr ⟨rfl, rfl⟩), ?_⟩
  refine ⟨_, rnum_snd (Quill.numB 6 e) n (by simp [Quill.numB_length]) hn _ (.inl rfl), ?_⟩
  refine ⟨num12 e n, ⟨rfl, rfl⟩, ?_⟩
  repeat' (first | (exact True.intro) | (exact rfl) | (exact And.intro rfl (And.intro rfl rfl)) | (exact And.intro rfl rfl) | (refine And.intro (Nat.le_of_ble_eq_true rfl) ?_) | (refine And.intro ?_ ?_))

abbrev q1 (t : List UInt8) := (Quill.Sc.mk t 0 0).num 6
abbrev q2 (t : List UInt8) := (Quill.Sc.mk t (q1 t).2.pos (q1 t).2.bad).num 6
def qf (t : List UInt8) : Int := (Quill.Sc.mk t (q2 t).2.pos (q2 t).2.bad).fin
def Psd (t : List UInt8) : Prop := qf t = 0 ∧ Okc (q1 t).1 (q2 t).1
abbrev scV (t : List UInt8) (p b : Int) : Value := .agg #[.string (bs t), .int .i64 p, .int .i64 b]
abbrev numT (x : Nat) (t : List UInt8) (p b : Int) : AV := .ex (.tuple #[.int .u64 x, scV t p b])
theorem parse_walk (t : List UInt8) (x1 x2 : Nat) (p1 b1 p2 b2 : Int) (h1 : SP 21 [.ex (scV t 0 0), Z 6] (numT x1 t p1 b1)) (h2 : SP 21 [.ex (scV t p1 b1), Z 6] (numT x2 t p2 b2))
    (hf : SP 16 [.ex (scV t p2 b2)] (Z 0)) (hc : SP 40 [cnt x1 x2] (Z 0)) : SP 36 [T t] (.tup [cnt x1 x2, Z 0]) := by
  refine S_ Try.func36 (by kernel_rfl) rfl (Nat.le_of_ble_eq_true rfl) ?_
  show avc Try.prog SP _ _ _ _ _ _
  dsimp only [avc, aops, startS, Array.toList, Try.f36]
  repeat' (first | (refine And.intro (fun _ => ?_) (fun h => Bool.noConfusion h)) | (refine And.intro (fun h => Bool.noConfusion h) (fun _ => ?_)) | (refine And.intro (Nat.le_of_ble_eq_true rfl) ?_))
  refine ⟨_, h1, ?_⟩
  repeat' (first | (refine And.intro (fun _ => ?_) (fun h => Bool.noConfusion h)) | (refine And.intro (fun h => Bool.noConfusion h) (fun _ => ?_)) | (refine And.intro (Nat.le_of_ble_eq_true rfl) ?_))
  refine ⟨_, h2, ?_⟩
  repeat' (first | (refine And.intro (fun _ => ?_) (fun h => Bool.noConfusion h)) | (refine And.intro (fun h => Bool.noConfusion h) (fun _ => ?_)) | (refine And.intro (Nat.le_of_ble_eq_true rfl) ?_))
  refine ⟨_, hf, ?_⟩
  repeat' (first | (refine And.intro (fun _ => ?_) (fun h => Bool.noConfusion h)) | (refine And.intro (fun h => Bool.noConfusion h) (fun _ => ?_)) | (refine And.intro (Nat.le_of_ble_eq_true rfl) ?_))
  refine ⟨_, hc, ?_⟩
  repeat' (first | (refine And.intro (fun _ => ?_) (fun h => Bool.noConfusion h)) | (refine And.intro (fun h => Bool.noConfusion h) (fun _ => ?_)) | (refine And.intro (Nat.le_of_ble_eq_true rfl) ?_))
  repeat' (first | (exact True.intro) | (exact rfl) | (exact And.intro rfl (And.intro rfl rfl)) | (exact And.intro rfl rfl) | (refine And.intro (Nat.le_of_ble_eq_true rfl) ?_) | (refine And.intro ?_ ?_))
theorem parse_walk2 (t : List UInt8) (x1 x2 : Nat) (p1 b1 p2 b2 : Int) (h1 : SP 21 [.ex (scV t 0 0), Z 6] (numT x1 t p1 b1)) (h2 : SP 21 [.ex (scV t p1 b1), Z 6] (numT x2 t p2 b2))
    (hf : SP 16 [.ex (scV t p2 b2)] (Z 0)) (hc : SP 40 [cnt x1 x2] (Z 2)) : SP 36 [T t] (.tup [cnt 0 0, Z 4]) := by
  refine S_ Try.func36 (by kernel_rfl) rfl (Nat.le_of_ble_eq_true rfl) ?_
  show avc Try.prog SP _ _ _ _ _ _
  dsimp only [avc, aops, startS, Array.toList, Try.f36]
  repeat' (first | (refine And.intro (fun _ => ?_) (fun h => Bool.noConfusion h)) | (refine And.intro (fun h => Bool.noConfusion h) (fun _ => ?_)) | (refine And.intro (Nat.le_of_ble_eq_true rfl) ?_))
  refine ⟨_, h1, ?_⟩
  repeat' (first | (refine And.intro (fun _ => ?_) (fun h => Bool.noConfusion h)) | (refine And.intro (fun h => Bool.noConfusion h) (fun _ => ?_)) | (refine And.intro (Nat.le_of_ble_eq_true rfl) ?_))
  refine ⟨_, h2, ?_⟩
  repeat' (first | (refine And.intro (fun _ => ?_) (fun h => Bool.noConfusion h)) | (refine And.intro (fun h => Bool.noConfusion h) (fun _ => ?_)) | (refine And.intro (Nat.le_of_ble_eq_true rfl) ?_))
  refine ⟨_, hf, ?_⟩
  repeat' (first | (refine And.intro (fun _ => ?_) (fun h => Bool.noConfusion h)) | (refine And.intro (fun h => Bool.noConfusion h) (fun _ => ?_)) | (refine And.intro (Nat.le_of_ble_eq_true rfl) ?_))
  refine ⟨_, hc, ?_⟩
  repeat' (first | (refine And.intro (fun _ => ?_) (fun h => Bool.noConfusion h)) | (refine And.intro (fun h => Bool.noConfusion h) (fun _ => ?_)) | (refine And.intro (Nat.le_of_ble_eq_true rfl) ?_))
  repeat' (first | (exact True.intro) | (exact rfl) | (exact And.intro rfl (And.intro rfl rfl)) | (exact And.intro rfl rfl) | (refine And.intro (Nat.le_of_ble_eq_true rfl) ?_) | (refine And.intro ?_ ?_))
theorem parse_walk3 (t : List UInt8) (x1 x2 : Nat) (p1 b1 p2 b2 f : Int) (h1 : SP 21 [.ex (scV t 0 0), Z 6] (numT x1 t p1 b1)) (h2 : SP 21 [.ex (scV t p1 b1), Z 6] (numT x2 t p2 b2))
    (hf : SP 16 [.ex (scV t p2 b2)] (Z f)) (hf0 : f ≠ 0) : SP 36 [T t] (.tup [cnt 0 0, Z 4]) := by
  refine S_ Try.func36 (by kernel_rfl) rfl (Nat.le_of_ble_eq_true rfl) ?_
  show avc Try.prog SP _ _ _ _ _ _
  dsimp only [avc, aops, startS, Array.toList, Try.f36]
  repeat' (first | (refine And.intro (fun _ => ?_) (fun h => Bool.noConfusion h)) | (refine And.intro (fun h => Bool.noConfusion h) (fun _ => ?_)) | (refine And.intro (Nat.le_of_ble_eq_true rfl) ?_))
  refine ⟨_, h1, ?_⟩
  repeat' (first | (refine And.intro (fun _ => ?_) (fun h => Bool.noConfusion h)) | (refine And.intro (fun h => Bool.noConfusion h) (fun _ => ?_)) | (refine And.intro (Nat.le_of_ble_eq_true rfl) ?_))
  refine ⟨_, h2, ?_⟩
  repeat' (first | (refine And.intro (fun _ => ?_) (fun h => Bool.noConfusion h)) | (refine And.intro (fun h => Bool.noConfusion h) (fun _ => ?_)) | (refine And.intro (Nat.le_of_ble_eq_true rfl) ?_))
  refine ⟨_, hf, ?_⟩
  refine And.intro (fun h1 => ?_) (fun h1 => ?_)
  · have h1 : (f != 0) = false := h1
    exact absurd h1 (by simp [hf0])
  repeat' (first | (refine And.intro (fun _ => ?_) (fun h => Bool.noConfusion h)) | (refine And.intro (fun h => Bool.noConfusion h) (fun _ => ?_)) | (refine And.intro (Nat.le_of_ble_eq_true rfl) ?_))
  repeat' (first | (exact True.intro) | (exact rfl) | (exact And.intro rfl (And.intro rfl rfl)) | (exact And.intro rfl rfl) | (refine And.intro (Nat.le_of_ble_eq_true rfl) ?_) | (refine And.intro ?_ ?_))
theorem parse_yes (t : List UInt8) (ht : t.length ≤ 70368744177664) (h : Psd t) : SP 36 [T t] (.tup [cnt (q1 t).1 (q2 t).1, Z 0]) := by
  have hf := fin_snd ⟨t, (q2 t).2.pos, (q2 t).2.bad⟩ (by simp only; omega)
  rw [show Quill.Sc.fin ⟨t, (q2 t).2.pos, (q2 t).2.bad⟩ = 0 from h.1] at hf
  exact parse_walk t _ _ _ _ _ _ (snum_snd ⟨t, 0, 0⟩ 6 ht) (snum_snd ⟨t, (q1 t).2.pos, (q1 t).2.bad⟩ 6 ht) hf (check_yes h.2)
theorem parse_no (t : List UInt8) (ht : t.length ≤ 70368744177664) (h : ¬ Psd t) : SP 36 [T t] (.tup [cnt 0 0, Z 4]) := by
  have hf := fin_snd ⟨t, (q2 t).2.pos, (q2 t).2.bad⟩ (by simp only; omega)
  by_cases hq : qf t = 0
  · rw [show Quill.Sc.fin ⟨t, (q2 t).2.pos, (q2 t).2.bad⟩ = 0 from hq] at hf
    exact parse_walk2 t _ _ _ _ _ _ (snum_snd ⟨t, 0, 0⟩ 6 ht) (snum_snd ⟨t, (q1 t).2.pos, (q1 t).2.bad⟩ 6 ht) hf (check_no fun hc => h ⟨hq, hc⟩)
  · exact parse_walk3 t _ _ _ _ _ _ _ (snum_snd ⟨t, 0, 0⟩ 6 ht) (snum_snd ⟨t, (q1 t).2.pos, (q1 t).2.bad⟩ 6 ht) hf hq
end Go.Proofs.Ytfonmnodjmeigaa.Av
