/- tape: what stands where texts were laid, in plain bytes. No conditions but that numbers have 64 bits. -/
import Derived.Test.YtjfkfldlmhbnkaaTape15
namespace Go.Proofs.Ytjfkfldlmhbnkaa.Av
open Go Go.RowKit
set_option linter.unusedVariables false
set_option linter.unusedSimpArgs false
set_option maxRecDepth 100000

theorem mkT_inj {g g' : Nat} {a a' : Int} (h : OkM g a) (h' : OkM g' a') (e : mkT g a = mkT g' a') : g = g' ∧ a = a' := by
  have k : 1 ≤ g ∧ g ≤ 1099511627776 ∧ 0 ≤ a ∧ a < 1048575 := h
  have k' : 1 ≤ g' ∧ g' ≤ 1099511627776 ∧ 0 ≤ a' ∧ a' < 1048575 := h'
  unfold mkT at e
  omega
/-- a laid sector, opened -/
theorem opn_secT {t : List UInt8} {g : Nat} {at_ : Int} {i : Nat} (h : OkM g (at_ + (i : Int))) : opn (secT t g at_ i) = (mkT g (at_ + (i : Int)), padR (pc (Quill.rowB t) i), 0) := by
  have k : 1 ≤ g ∧ g ≤ 1099511627776 ∧ 0 ≤ at_ + (i : Int) ∧ at_ + (i : Int) < 1048575 := h
  exact sec_opn (by unfold mkT; omega) (by unfold mkT; omega) (pc48 _ _)
/-- where a sector of this generation and place stands, its payload is told -/
theorem payO_sec {L : List (List UInt8)} {t : List UInt8} {g : Nat} {at_ : Int} {i : Nat} (h : OkM g (at_ + (i : Int))) (hs : L[(at_ + (i : Int)).toNat]? = some (secT t g at_ i)) : payO L g (at_ + (i : Int)) = some (padR (pc (Quill.rowB t) i)) := by
  have k : 1 ≤ g ∧ g ≤ 1099511627776 ∧ 0 ≤ at_ + (i : Int) ∧ at_ + (i : Int) < 1048575 := h
  unfold payO
  rw [hs]
  simp only
  rw [opn_secT h, if_pos ⟨k.2.2.1, h, rfl, rfl⟩]
/-- .. and of another generation none is -/
theorem payO_gen {L : List (List UInt8)} {t : List UInt8} {g g' : Nat} {at_ : Int} {i : Nat} (h : OkM g (at_ + (i : Int))) (hs : L[(at_ + (i : Int)).toNat]? = some (secT t g at_ i)) (hne : g ≠ g') : payO L g' (at_ + (i : Int)) = none := by
  unfold payO
  rw [hs]
  simp only
  rw [opn_secT h]
  split
  · rename_i hc
    exact absurd (mkT_inj h hc.2.1 hc.2.2.2).1 hne
  · rfl
/-- the payloads of a text that was laid here -/
theorem paysO_laid {L : List (List UInt8)} {t : List UInt8} {g : Nat} {at_ : Int} (k : Nat) (h : ∀ i : Nat, i < k → OkM g (at_ + (i : Int)) ∧ L[(at_ + (i : Int)).toNat]? = some (secT t g at_ i)) : paysO L g at_ k = (List.range k).map fun i => padR (pc (Quill.rowB t) i) := by
  have hle := paysO_len L g k at_
  have hlen : (paysO L g at_ k).length = k := by
    apply Classical.byContradiction
    intro hn
    have hlt : (paysO L g at_ k).length < k := by omega
    have h1 := paysO_end L g k at_ hlt
    have h2 := h _ hlt
    rw [payO_sec h2.1 h2.2] at h1
    cases h1
  apply List.ext_getElem?
  intro i
  by_cases hi : i < k
  · have h1 := paysO_at L g k at_ i (by omega)
    have h2 := h i hi
    rw [payO_sec h2.1 h2.2] at h1
    rw [← h1]
    simp [hi]
  · rw [List.getElem?_eq_none (by omega), List.getElem?_eq_none (by simp; omega)]
theorem pad_first {q : List UInt8} {n : Nat} (h : n ≤ q.length) : (padR q).take n = q.take n := by
  unfold padR
  rw [List.take_append_of_le_length h]
/-- payloads of a text, with bytes of 0 behind the last one: the text's first bytes -/
theorem pads_flat (l : List UInt8) : ∀ k, (((List.range k).map fun i => padR (pc l i)).flatten).take (min (48 * k) l.length) = l.take (48 * k)
  | 0 => by simp
  | k + 1 => by
    have ih := pads_flat l k
    have hfl : ∀ k, (((List.range k).map fun i => padR (pc l i)).flatten).length = 48 * k := by
      intro k
      induction k with
      | zero => rfl
      | succ k ih2 =>
        rw [List.range_succ, List.map_append, List.flatten_append, List.length_append, ih2, List.map_singleton, List.flatten_singleton, pad_len (pc48 l k)]; omega
    rw [List.range_succ, List.map_append, List.flatten_append, List.map_singleton, List.flatten_singleton]
    by_cases h : 48 * k ≤ l.length
    · rw [List.take_append, hfl k, List.take_of_length_le (by rw [hfl k]; omega)]
      rw [show min (48 * k) l.length = 48 * k by omega, List.take_of_length_le (by rw [hfl k]; omega)] at ih
      rw [ih, show 48 * (k + 1) = 48 * k + 48 by omega, List.take_add]
      congr 1
      have hpl : (pc l k).length = min 48 (l.length - 48 * k) := by unfold pc; rw [List.length_take, List.length_drop]
      rw [pad_first (by omega), List.take_of_length_le (by omega)]
      rfl
    · rw [List.take_append_of_le_length (by rw [hfl k]; omega)]
      rw [show min (48 * (k + 1)) l.length = min (48 * k) l.length by omega, ih, List.take_of_length_le (by omega), List.take_of_length_le (by omega)]
/-- where a text was laid, it is told -/
theorem textO_laid {L : List (List UInt8)} {t : List UInt8} {g : Nat} {at_ : Int} (h0 : t ≠ []) (h1 : t.length ≤ 1400) (h : ∀ i : Nat, i < szT t.length → OkM g (at_ + (i : Int)) ∧ L[(at_ + (i : Int)).toNat]? = some (secT t g at_ i)) : textO L g at_ = some (t, szT t.length) := by
  have hk := npc_row h0 h1
  have hl := rowB_len t
  have hpos : 0 < t.length := List.length_pos_iff.2 h0
  have hsz : szT t.length = (t.length + 2 + 47) / 48 := by unfold szT; rw [if_neg (by omega)]
  have hp := paysO_laid (szT t.length) h
  have h2 := h 0 (by omega)
  have hp0 := payO_sec h2.1 h2.2
  rw [Int.natCast_zero, Int.add_zero] at hp0
  have hpc : (pc (Quill.rowB t) 0).length = min 48 (t.length + 2) := by unfold pc; rw [List.length_take, List.length_drop, hl]; omega
  have htell : Quill.tell ((padR (pc (Quill.rowB t) 0)).take 2) = t.length := by
    rw [pad_first (by omega)]
    unfold pc
    rw [List.take_take, Nat.mul_zero, List.drop_zero, show min 2 48 = 2 from rfl]
    unfold Quill.rowB
    rw [List.take_left' (Quill.numB_length 2 t.length), Quill.tell_numB]
    omega
  unfold textO
  rw [hp0]
  simp only
  rw [htell, if_neg (by omega), hp, if_neg (by simp)]
  congr 2
  have hf := pads_flat (Quill.rowB t) (szT t.length)
  rw [show min (48 * szT t.length) (Quill.rowB t).length = t.length + 2 by omega, List.take_of_length_le (l := Quill.rowB t) (by omega)] at hf
  have e : ∀ (X : List UInt8), (X.drop 2).take t.length = (X.take (t.length + 2)).drop 2 := fun X => by rw [List.drop_take]; congr 1
  rw [e, hf]
  unfold Quill.rowB
  rw [List.drop_left' (Quill.numB_length 2 t.length)]
end Go.Proofs.Ytjfkfldlmhbnkaa.Av
