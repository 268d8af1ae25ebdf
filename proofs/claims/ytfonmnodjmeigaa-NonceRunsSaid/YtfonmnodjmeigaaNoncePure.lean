/- nonce: a text is a count's number just if its parts are told. No conditions. -/
import Derived.Test.YtfonmnodjmeigaaNonce3
namespace Go.Proofs.Ytfonmnodjmeigaa.Av
open Go Go.RowKit
set_option linter.unusedVariables false
set_option linter.unusedSimpArgs false

theorem q1_short {t : List UInt8} (h : t.length < 6) : q1 t = (0, ⟨t, 0, 3⟩) := by
  have h1 : (t.length : Int) - 0 < 6 := by omega
  simp [q1, Quill.Sc.num, Quill.Sc.stands, Quill.Sc.fails, h]
  omega
theorem q1_long {t : List UInt8} (h : 6 ≤ t.length) : q1 t = (Quill.tell (t.take 6), ⟨t, 6, 0⟩) := by
  simp [q1, Quill.Sc.num, Quill.Sc.stands, Quill.Sc.fails]
  omega
theorem q2_short {t : List UInt8} (h : 6 ≤ t.length) (h2 : t.length < 12) : q2 t = (0, ⟨t, 6, 3⟩) := by
  unfold q2
  rw [q1_long h]
  dsimp only
  unfold Quill.Sc.num
  rw [if_neg (by simp), if_neg (by simp [Quill.Sc.stands]; omega), if_pos (by dsimp only; omega)]
  rfl
theorem q2_long {t : List UInt8} (h : 12 ≤ t.length) : q2 t = (Quill.tell ((t.drop 6).take 6), ⟨t, 12, 0⟩) := by
  unfold q2
  rw [q1_long (by omega)]
  dsimp only
  unfold Quill.Sc.num
  rw [if_neg (by simp), if_neg (by simp [Quill.Sc.stands]; omega), if_neg (by dsimp only; omega)]
  rfl
theorem qf_12 {t : List UInt8} (h : t.length = 12) : qf t = 0 := by
  unfold qf
  rw [q2_long (by omega)]
  simp [Quill.Sc.fin, Quill.Sc.stands, h]
theorem psd_12 {t : List UInt8} (h : Psd t) : t.length = 12 := by
  obtain ⟨h1, h2⟩ := h
  by_cases h6 : t.length < 6
  · rw [q1_short h6] at h2
    unfold Okc at h2
    simp at h2
  · by_cases h12 : t.length < 12
    · unfold qf at h1
      rw [q2_short (by omega) h12] at h1
      simp [Quill.Sc.fin] at h1
    · unfold qf at h1
      rw [q2_long (by omega)] at h1
      simp [Quill.Sc.fin, Quill.Sc.stands] at h1
      omega
theorem back_12 {t : List UInt8} (h : t.length = 12) : num12 (q1 t).1 (q2 t).1 = t ∧ (q2 t).1 ≠ 281474976710656 := by
  rw [q1_long (by omega), q2_long (by omega)]
  have e1 := Quill.numB_tell (t.take 6)
  have e2 := Quill.numB_tell ((t.drop 6).take 6)
  have l1 : (t.take 6).length = 6 := by simp; omega
  have l2 : ((t.drop 6).take 6).length = 6 := by simp; omega
  rw [l1] at e1; rw [l2] at e2
  refine ⟨?_, ?_⟩
  · show Quill.numB 6 _ ++ Quill.numB 6 _ = t
    rw [e1, e2]
    have : (t.drop 6).take 6 = t.drop 6 := List.take_of_length_le (by simp; omega)
    rw [this, List.take_append_drop]
  · have := Quill.tell_lt ((t.drop 6).take 6)
    rw [l2] at this
    show Quill.tell ((t.drop 6).take 6) ≠ _
    intro e
    rw [e] at this
    simp at this
theorem num12_length (e n : Nat) : (num12 e n).length = 12 := by simp [num12, Quill.numB_length]
end Go.Proofs.Ytfonmnodjmeigaa.Av
