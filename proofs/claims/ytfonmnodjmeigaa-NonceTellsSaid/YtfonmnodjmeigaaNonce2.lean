/- nonce: first counts, their texts, taking. No conditions but that numbers have 64 bits. -/
import Derived.Test.YtfonmnodjmeigaaNonce1
namespace Go.Proofs.Ytfonmnodjmeigaa.Av
set_option maxHeartbeats 1000000
open Go Go.RowKit
set_option linter.unusedVariables false
set_option linter.unusedSimpArgs false
set_option maxRecDepth 100000

abbrev U64 (n : Nat) : Prop := n < 18446744073709551616
abbrev numA (l : List UInt8) (x : Nat) : AV := .own 5 (l ++ Quill.numB 6 x).length (bytesA (l ++ Quill.numB 6 x))
theorem num_snd (l : List UInt8) (x : Nat) (hl : l.length ≤ 35184372088832) (hx : U64 x) (a : AV) (ha : a = .vs l.length (bytesA l) ∨ (a = nilA ∧ l = [])) : SP 26 [a, Z 6, U x] (numA l x) :=
  sound_bytes (vs := [.int .i64 6, .int .u64 x]) Try.func26 (by kernel_rfl) rfl (fun w A n k hr => num_yes A n k 6 x l w w.heap.size hr (by omega) (by omega) (by have := hr.1; omega) hx (Nat.le_refl _)) a ha
theorem rnum_snd (l : List UInt8) (x : Nat) (hl : l.length ≤ 35184372088832) (hx : U64 x) (a : AV) (ha : a = .vs l.length (bytesA l) ∨ (a = nilA ∧ l = [])) : SP 32 [a, Z 6, U x] (numA l x) :=
  sound_bytes (vs := [.int .i64 6, .int .u64 x]) Try.func32 (by kernel_rfl) rfl (fun w A n k hr => refnum_any A n k 6 x l w w.heap.size hr (by omega) (by omega) (by have := hr.1; omega) hx (Nat.le_refl _)) a ha
abbrev scA (s : Quill.Sc) : AV := .ex (.agg #[.string (bs s.text), .int .i64 s.pos, .int .i64 s.bad])
theorem snum_snd (s : Quill.Sc) (size : Int) (hl : s.text.length ≤ 70368744177664) :
    SP 21 [scA s, Z size] (.ex (.tuple #[.int .u64 (s.num size).1, .agg #[.string (bs s.text), .int .i64 (s.num size).2.pos, .int .i64 (s.num size).2.bad]])) :=
  sound_ex (vs := [_, _]) Try.func21 (by kernel_rfl) rfl (fun w => snum s size w hl)
theorem rsnum_snd (s : Quill.Sc) (size : Int) (hl : s.text.length ≤ 70368744177664) :
    SP 22 [scA s, Z size] (.ex (.tuple #[.int .u64 (s.num size).1, .agg #[.string (bs s.text), .int .i64 (s.num size).2.pos, .int .i64 (s.num size).2.bad]])) :=
  sound_ex (vs := [_, _]) Try.func22 (by kernel_rfl) rfl (fun w => rnum s size w hl)
theorem fin_snd (s : Quill.Sc) (hl : s.text.length ≤ 9223372036854775807) : SP 16 [scA s] (Z s.fin) :=
  sound_ex (vs := [_]) Try.func16 (by kernel_rfl) rfl (fun w => sfin s w hl)

theorem chk_yes {e n : Nat} (h : Okc e n) : chk e n = 0 := if_pos h
theorem chk_no {e n : Nat} (h : ¬ Okc e n) : chk e n = 2 := if_neg h
theorem check_yes {e n : Nat} (h : Okc e n) : SP 40 [cnt e n] (Z 0) := by
  have := check_ok e n; rwa [chk_yes h] at this
theorem check_no {e n : Nat} (h : ¬ Okc e n) : SP 40 [cnt e n] (Z 2) := by
  have := check_ok e n; rwa [chk_no h] at this

theorem begin_yes (e : Nat) (h : Okc e 0) : SP 38 [U e] (.tup [cnt e 0, Z 0]) := by
  refine S_ Try.func38 (by kernel_rfl) rfl (Nat.le_of_ble_eq_true rfl) ?_
  show avc Try.prog SP _ _ _ _ _ _
  dsimp only [avc, aops, startS, Array.toList, Try.f38]
  repeat' (first | (refine And.intro (fun _ => ?_) (fun h => Bool.noConfusion h)) | (refine And.intro (fun h => Bool.noConfusion h) (fun _ => ?_)) | (refine And.intro (Nat.le_of_ble_eq_true rfl) ?_))
  refine ⟨_, check_yes h, ?_⟩
  repeat' (first | (refine And.intro (fun _ => ?_) (fun h => Bool.noConfusion h)) | (refine And.intro (fun h => Bool.noConfusion h) (fun _ => ?_)) | (refine And.intro (Nat.le_of_ble_eq_true rfl) ?_))
  repeat' (first | (exact True.intro) | (exact rfl) | (exact And.intro rfl (And.intro rfl rfl)) | (exact And.intro rfl rfl) | (refine And.intro (Nat.le_of_ble_eq_true rfl) ?_) | (refine And.intro ?_ ?_))
theorem begin_no (e : Nat) (h : ¬ Okc e 0) : SP 38 [U e] (.tup [cnt 0 0, Z 2]) := by
  refine S_ Try.func38 (by kernel_rfl) rfl (Nat.le_of_ble_eq_true rfl) ?_
  show avc Try.prog SP _ _ _ _ _ _
  dsimp only [avc, aops, startS, Array.toList, Try.f38]
  repeat' (first | (refine And.intro (fun _ => ?_) (fun h => Bool.noConfusion h)) | (refine And.intro (fun h => Bool.noConfusion h) (fun _ => ?_)) | (refine And.intro (Nat.le_of_ble_eq_true rfl) ?_))
  refine ⟨_, check_no h, ?_⟩
  repeat' (first | (refine And.intro (fun _ => ?_) (fun h => Bool.noConfusion h)) | (refine And.intro (fun h => Bool.noConfusion h) (fun _ => ?_)) | (refine And.intro (Nat.le_of_ble_eq_true rfl) ?_))
  repeat' (first | (exact True.intro) | (exact rfl) | (exact And.intro rfl (And.intro rfl rfl)) | (exact And.intro rfl rfl) | (refine And.intro (Nat.le_of_ble_eq_true rfl) ?_) | (refine And.intro ?_ ?_))
abbrev num12 (e n : Nat) : List UInt8 := Quill.numB 6 e ++ Quill.numB 6 n
theorem lay_ok (e n : Nat) (he : U64 e) (hn : U64 n) : SP 54 [cnt e n] (T (num12 e n)) := by
  refine S_ Try.func54 (by kernel_rfl) rfl (Nat.le_of_ble_eq_true rfl) ?_
  show avc Try.prog SP _ _ _ _ _ _
  dsimp only [avc, aops, startS, Array.toList, Try.f54]
  refine ⟨_, num_snd [] e (by simp) he _ (.inr ⟨rfl, rfl⟩), ?_⟩
  refine ⟨_, num_snd (Quill.numB 6 e) n (by simp [Quill.numB_length]) hn _ (.inl rfl), ?_⟩
  refine ⟨num12 e n, ⟨rfl, rfl⟩, ?_⟩
  rfl

/-- a text's code: 0, 19 at the last count, 2 where the count may not be -/
def Last (n : Nat) : Prop := n = 281474976710656
theorem rcheck_ok (e n : Nat) : SP 39 [cnt e n] (Z (chk e n)) := by
  refine S_ Try.func39 (by kernel_rfl) rfl (Nat.le_of_ble_eq_true rfl) ?_
  show avc Try.prog SP _ _ _ _ _ _
  dsimp only [avc, aops, startS, Array.toList, Try.f39]
  refine And.intro (fun h1 => ?_) (fun h1 => ?_)
  · have h1 : ¬ ((e : Int) < 1) := of_decide_eq_false h1
    repeat' (first | (refine And.intro (fun _ => ?_) (fun h => Bool.noConfusion h)) | (refine And.intro (fun h => Bool.noConfusion h) (fun _ => ?_)) | (refine And.intro (Nat.le_of_ble_eq_true rfl) ?_))
    refine And.intro (fun h2 => ?_) (fun h2 => ?_)
    · have h2 : ¬ ((e : Int) > 1099511627776) := of_decide_eq_false h2
      repeat' (first | (refine And.intro (fun _ => ?_) (fun h => Bool.noConfusion h)) | (refine And.intro (fun h => Bool.noConfusion h) (fun _ => ?_)) | (refine And.intro (Nat.le_of_ble_eq_true rfl) ?_))
      refine And.intro (fun h3 => ?_) (fun h3 => ?_)
      · have h3 : ((n : Int) > 281474976710656) := of_decide_eq_true h3
        rw [chk_no (e := e) (n := n) (by unfold Okc; omega)]
        rfl
      · have h3 : ¬ ((n : Int) > 281474976710656) := of_decide_eq_false h3
        rw [chk_yes (e := e) (n := n) (by unfold Okc; omega)]
        rfl
    · have h2 : ((e : Int) > 1099511627776) := of_decide_eq_true h2
      repeat' (first | (refine And.intro (fun _ => ?_) (fun h => Bool.noConfusion h)) | (refine And.intro (fun h => Bool.noConfusion h) (fun _ => ?_)) | (refine And.intro (Nat.le_of_ble_eq_true rfl) ?_))
      rw [chk_no (e := e) (n := n) (by unfold Okc; omega)]
      rfl
  · have h1 : ((e : Int) < 1) := of_decide_eq_true h1
    repeat' (first | (refine And.intro (fun _ => ?_) (fun h => Bool.noConfusion h)) | (refine And.intro (fun h => Bool.noConfusion h) (fun _ => ?_)) | (refine And.intro (Nat.le_of_ble_eq_true rfl) ?_))
    rw [chk_no (e := e) (n := n) (by unfold Okc; omega)]
    rfl
theorem rcheck_yes {e n : Nat} (h : Okc e n) : SP 39 [cnt e n] (Z 0) := by
  have := rcheck_ok e n; rwa [chk_yes h] at this
theorem rcheck_no {e n : Nat} (h : ¬ Okc e n) : SP 39 [cnt e n] (Z 2) := by
  have := rcheck_ok e n; rwa [chk_no h] at this

theorem text_no (e n : Nat) (h : ¬ Okc e n) : SP 34 [cnt e n] (.tup [T [], Z 2]) := by
  refine S_ Try.func34 (by kernel_rfl) rfl (Nat.le_of_ble_eq_true rfl) ?_
  show avc Try.prog SP _ _ _ _ _ _
  dsimp only [avc, aops, startS, Array.toList, Try.f34]
  repeat' (first | (refine And.intro (fun _ => ?_) (fun h => Bool.noConfusion h)) | (refine And.intro (fun h => Bool.noConfusion h) (fun _ => ?_)) | (refine And.intro (Nat.le_of_ble_eq_true rfl) ?_))
  refine ⟨_, check_no h, ?_⟩
  repeat' (first | (refine And.intro (fun _ => ?_) (fun h => Bool.noConfusion h)) | (refine And.intro (fun h => Bool.noConfusion h) (fun _ => ?_)) | (refine And.intro (Nat.le_of_ble_eq_true rfl) ?_))
  repeat' (first | (exact True.intro) | (exact rfl) | (exact And.intro rfl (And.intro rfl rfl)) | (exact And.intro rfl rfl) | (refine And.intro (Nat.le_of_ble_eq_true rfl) ?_) | (refine And.intro ?_ ?_))
theorem text_last (e n : Nat) (h : Okc e n) (hl : n = 281474976710656) : SP 34 [cnt e n] (.tup [T [], Z 19]) := by
  subst hl
  refine S_ Try.func34 (by kernel_rfl) rfl (Nat.le_of_ble_eq_true rfl) ?_
  show avc Try.prog SP _ _ _ _ _ _
  dsimp only [avc, aops, startS, Array.toList, Try.f34]
  repeat' (first | (refine And.intro (fun _ => ?_) (fun h => Bool.noConfusion h)) | (refine And.intro (fun h => Bool.noConfusion h) (fun _ => ?_)) | (refine And.intro (Nat.le_of_ble_eq_true rfl) ?_))
  refine ⟨_, check_yes h, ?_⟩
  repeat' (first | (refine And.intro (fun _ => ?_) (fun h => Bool.noConfusion h)) | (refine And.intro (fun h => Bool.noConfusion h) (fun _ => ?_)) | (refine And.intro (Nat.le_of_ble_eq_true rfl) ?_))
  repeat' (first | (exact True.intro) | (exact rfl) | (exact And.intro rfl (And.intro rfl rfl)) | (exact And.intro rfl rfl) | (refine And.intro (Nat.le_of_ble_eq_true rfl) ?_) | (refine And.intro ?_ ?_))
theorem text_yes (e n : Nat) (h : Okc e n) (hl : n ≠ 281474976710656) : SP 34 [cnt e n] (.tup [T (num12 e n), Z 0]) := by
  refine S_ Try.func34 (by kernel_rfl) rfl (Nat.le_of_ble_eq_true rfl) ?_
  show avc Try.prog SP _ _ _ _ _ _
  dsimp only [avc, aops, startS, Array.toList, Try.f34]
  repeat' (first | (refine And.intro (fun _ => ?_) (fun h => Bool.noConfusion h)) | (refine And.intro (fun h => Bool.noConfusion h) (fun _ => ?_)) | (refine And.intro (Nat.le_of_ble_eq_true rfl) ?_))
  refine ⟨_, check_yes h, ?_⟩
  repeat' (first | (refine And.intro (fun _ => ?_) (fun h => Bool.noConfusion h)) | (refine And.intro (fun h => Bool.noConfusion h) (fun _ => ?_)) | (refine And.intro (Nat.le_of_ble_eq_true rfl) ?_))
  refine And.intro (fun h1 => ?_) (fun h1 => ?_)
  · exact absurd h1 (by simp; omega)
  repeat' (first | (refine And.intro (fun _ => ?_) (fun h => Bool.noConfusion h)) | (refine And.intro (fun h => Bool.noConfusion h) (fun _ => ?_)) | (refine And.intro (Nat.le_of_ble_eq_true rfl) ?_))
  refine ⟨_, lay_ok e n (by unfold Okc at h; omega) (by unfold Okc at h; omega), ?_⟩
  repeat' (first | (exact True.intro) | (exact rfl) | (exact And.intro rfl (And.intro rfl rfl)) | (exact And.intro rfl rfl) | (refine And.intro (Nat.le_of_ble_eq_true rfl) ?_) | (refine And.intro ?_ ?_))
end Go.Proofs.Ytfonmnodjmeigaa.Av
