/- stamp: a torn sector: what is told of it, in plain bytes; then walked. No conditions but that numbers have 64 bits. -/
import Derived.Test.YtjfkfldlmhbnkaaStamp7
namespace Go.Proofs.Ytjfkfldlmhbnkaa.Av
open Go Go.RowKit
set_option linter.unusedVariables false
set_option linter.unusedSimpArgs false
set_option maxRecDepth 100000

theorem sec_len (m : Nat) (q : List UInt8) (hq : q.length ≤ 48) : (sec m q).length = 64 := by
  simp only [sec, List.length_append, Quill.numB_length, List.length_replicate]; omega
theorem sec_take (m : Nat) (q : List UInt8) : (sec m q).take 8 = Quill.numB 8 m := by
  simp only [sec, List.append_assoc]
  rw [List.take_left' (Quill.numB_length 8 m)]
theorem sec_drop (m : Nat) (q : List UInt8) (hq : q.length ≤ 48) : (sec m q).drop 56 = Quill.numB 8 m := by
  simp only [sec]
  rw [List.drop_left' (by simp only [List.length_append, Quill.numB_length, List.length_replicate]; omega)]
theorem tell8 {m : Nat} (h : m < 18446744073709551616) : Quill.tell (Quill.numB 8 m) = m := by
  rw [Quill.tell_numB, Nat.mod_eq_of_lt (by omega)]
theorem hd_sec {m : Nat} (q : List UInt8) (h : m < 18446744073709551616) : hdM (sec m q) = m := by rw [hdM, sec_take, tell8 h]
theorem tl_sec {m : Nat} (q : List UInt8) (h : m < 18446744073709551616) (hq : q.length ≤ 48) : tlM (sec m q) = m := by rw [tlM, sec_drop m q hq, tell8 h]
/-- the first bytes of one, laid over another -/
def torn (f o : List UInt8) (k : Nat) : List UInt8 := f.take k ++ o.drop k
theorem torn_len {f o : List UInt8} {k : Nat} (hf : f.length = 64) (ho : o.length = 64) : (torn f o k).length = 64 := by
  simp only [torn, List.length_append, List.length_take, List.length_drop]; omega
theorem torn_take_lo {f o : List UInt8} {k j : Nat} (hf : f.length = 64) (h : j ≤ k) (hk : k ≤ 64) : (torn f o k).take j = f.take j := by
  rw [torn, List.take_append_of_le_length (by rw [List.length_take]; omega), List.take_take, Nat.min_eq_left h]
theorem torn_drop_hi {f o : List UInt8} {k j : Nat} (hf : f.length = 64) (h : k ≤ j) (hk : k ≤ 64) : (torn f o k).drop j = o.drop j := by
  rw [torn, List.drop_append, List.drop_eq_nil_of_le (by rw [List.length_take]; omega), List.nil_append, List.drop_drop, List.length_take, Nat.min_eq_left (by omega)]
  congr 1; omega
/-- what is told of it -/
theorem torn_tells {f o : List UInt8} {m0 m1 k : Nat} (hf : f.length = 64) (ho : o.length = 64) (f1 : hdM f = m1) (f2 : tlM f = m1) (o1 : hdM o = m0) (o2 : tlM o = m0) (h1 : m1 ≠ 0) (hne : m0 ≠ m1) (hk : k ≤ 64) :
    (opn (torn f o k)).2.2 = 4 ∧ torn f o k ≠ o ∧ torn f o k ≠ f ∨ (opn (torn f o k)).2.2 = 6 ∧ m0 = 0 ∨
      (opn (torn f o k)).2.2 = 0 ∧ (opn (torn f o k)).2.1 = ((torn f o k).drop 8).take 48 ∧ ((opn (torn f o k)).1 = m0 ∧ torn f o k = o ∨ (opn (torn f o k)).1 = m1 ∧ torn f o k = f) := by
  have hl := torn_len (k := k) hf ho
  by_cases h : hdM (torn f o k) = tlM (torn f o k)
  · by_cases h8 : k ≤ 56
    · have ht : tlM (torn f o k) = m0 := by rw [tlM, torn_drop_hi hf h8 hk]; exact o2
      by_cases h0 : m0 = 0
      · refine .inr (.inl ⟨?_, h0⟩)
        unfold opn
        rw [if_neg (by omega), if_neg (by omega), if_pos (by omega)]
      · have hk8 : k ≤ 8 := by
          apply Classical.byContradiction
          intro hh
          have : hdM (torn f o k) = m1 := by rw [hdM, torn_take_lo hf (by omega) hk]; exact f1
          omega
        have he : torn f o k = o := by
          have e1 : (torn f o k).take 8 = o.take 8 := by
            apply Quill.tell_inj (by simp only [List.length_take]; omega)
            have : hdM (torn f o k) = hdM o := by omega
            exact this
          rw [← List.take_append_drop 8 (torn f o k), e1, torn_drop_hi hf hk8 hk, List.take_append_drop]
        have eo : opn (torn f o k) = (hdM (torn f o k), ((torn f o k).drop 8).take 48, 0) := by
          unfold opn
          rw [if_neg (by omega), if_neg (by omega), if_neg (by omega)]
        rw [eo]
        exact .inr (.inr ⟨rfl, rfl, .inl ⟨by show hdM _ = _; omega, he⟩⟩)
    · have hh : hdM (torn f o k) = m1 := by rw [hdM, torn_take_lo hf (by omega) hk]; exact f1
      have he : torn f o k = f := by
        have e1 : (torn f o k).drop 56 = f.drop 56 := by
          apply Quill.tell_inj (by simp only [List.length_drop]; omega)
          have : tlM (torn f o k) = tlM f := by omega
          exact this
        rw [← List.take_append_drop 56 (torn f o k), e1, torn_take_lo hf (by omega) hk, List.take_append_drop]
      have eo : opn (torn f o k) = (hdM (torn f o k), ((torn f o k).drop 8).take 48, 0) := by
        unfold opn
        rw [if_neg (by omega), if_neg (by omega), if_neg (by omega)]
      rw [eo]
      exact .inr (.inr ⟨rfl, rfl, .inr ⟨hh, he⟩⟩)
  · refine .inl ⟨?_, fun e => ?_, fun e => ?_⟩
    · unfold opn
      rw [if_neg (by omega), if_pos h]
    · rw [e] at h; omega
    · rw [e] at h; omega
/-- a payload with bytes of 0 behind -/
def padR (q : List UInt8) : List UInt8 := q ++ List.replicate (48 - q.length) 0
theorem sec_opn {m : Nat} {q : List UInt8} (hm : m ≠ 0) (hm2 : m < 18446744073709551616) (hq : q.length ≤ 48) : opn (sec m q) = (m, padR q, 0) := by
  have hl := sec_len m q hq
  have h1 := hd_sec q hm2
  have h2 := tl_sec q hm2 hq
  unfold opn
  rw [if_neg (by omega), if_neg (by omega), if_neg (by omega), h1]
  have e : ((sec m q).drop 8).take 48 = padR q := by
    simp only [sec, List.append_assoc]
    rw [List.drop_left' (Quill.numB_length 8 m), ← List.append_assoc, List.take_left' (by simp; omega)]
    rfl
  rw [e]
theorem pad_len {q : List UInt8} (h : q.length ≤ 48) : (padR q).length = 48 := by simp [padR]; omega
end Go.Proofs.Ytjfkfldlmhbnkaa.Av
