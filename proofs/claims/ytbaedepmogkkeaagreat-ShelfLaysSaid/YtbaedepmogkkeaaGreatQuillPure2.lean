/- The plain mathematics of quill: what is laid is scanned and split again. No program. No conditions. -/
import Derived.Test.YtbaedepmogkkeaaGreatSplitWalks
namespace Go.Proofs.YtbaedepmogkkeaaGreat.Quill
set_option linter.unusedSimpArgs false
set_option linter.unusedVariables false

/-- A number that stands there. -/
theorem num_there (t a l r : List UInt8) (z : Nat) (ht : t = a ++ l ++ r) (hl : l.length = z) (h1 : 1 ≤ z) (h8 : z ≤ 8) :
    Sc.num ⟨t, (a.length : Int), 0⟩ (z : Int) = (tell l, ⟨t, ((a.length + z : Nat) : Int), 0⟩) := by
  have hlen : t.length = a.length + z + r.length := by rw [ht, List.length_append, List.length_append, hl]
  unfold Sc.num
  rw [if_neg (by simp), if_neg (by simp [Sc.stands]; omega), if_neg (by simp; omega)]
  have e : (t.drop a.length).take z = l := by
    rw [ht, List.append_assoc, List.drop_left', List.take_left']
    · exact hl
    · rfl
  simp only [Int.toNat_natCast, e]
  rw [Int.natCast_add]
/-- A row that stands there. -/
theorem row_there (t a s r : List UInt8) (ht : t = a ++ rowB s ++ r) (hs : s.length ≤ 65535) :
    Sc.row ⟨t, (a.length : Int), 0⟩ = (s, ⟨t, ((a.length + (2 + s.length) : Nat) : Int), 0⟩) := by
  have hn := num_there t a (numB 2 s.length) (s ++ r) 2 (by rw [ht, rowB]; simp) (numB_length _ _) (by omega) (by omega)
  rw [tell_numB, Nat.mod_eq_of_lt (by omega)] at hn
  have hn' : Sc.num ⟨t, (a.length : Int), 0⟩ 2 = (s.length, ⟨t, ((a.length + 2 : Nat) : Int), 0⟩) := hn
  have hlen : t.length = a.length + (2 + s.length) + r.length := by rw [ht, List.length_append, List.length_append, rowB_length]
  unfold Sc.row
  rw [hn', if_neg (by simp), if_neg (by simp only; omega)]
  have e : (t.drop (a.length + 2)).take s.length = s := by
    have e1 : t = (a ++ numB 2 s.length) ++ (s ++ r) := by rw [ht, rowB]; simp
    rw [e1, List.drop_left' (by rw [List.length_append, numB_length]), List.take_left' rfl]
  simp only [Int.toNat_natCast, e]
  rw [← Int.natCast_add]
  congr 3
  omega
/-- A row of which a part is missing. -/
theorem row_short (t a c : List UInt8) (s : List UInt8) (ht : t = a ++ c) (hc : c = (rowB s).take (1 + s.length)) (hs : s.length ≤ 65535) :
    (Sc.row ⟨t, (a.length : Int), 0⟩).2.bad = 3 := by
  have hcl : c.length = 1 + s.length := by rw [hc, List.length_take, rowB_length]; omega
  have hlen : t.length = a.length + (1 + s.length) := by rw [ht, List.length_append, hcl]
  by_cases h0 : s.length = 0
  · have hn : Sc.num ⟨t, (a.length : Int), 0⟩ 2 = (0, ⟨t, (a.length : Int), 3⟩) := by
      unfold Sc.num
      rw [if_neg (by simp), if_neg (by simp [Sc.stands]; omega), if_pos (by simp only; omega)]
      rfl
    unfold Sc.row
    rw [hn, if_pos (by simp)]
  · have hn := num_there t a (numB 2 s.length) (s.take (s.length - 1)) 2 (by
      rw [ht, hc, rowB, List.take_append, numB_length, List.take_of_length_le (by rw [numB_length]; omega), List.append_assoc, show 1 + s.length - 2 = s.length - 1 by omega]) (numB_length _ _) (by omega) (by omega)
    rw [tell_numB, Nat.mod_eq_of_lt (by omega)] at hn
    have hn' : Sc.num ⟨t, (a.length : Int), 0⟩ 2 = (s.length, ⟨t, ((a.length + 2 : Nat) : Int), 0⟩) := hn
    unfold Sc.row
    rw [hn', if_neg (by simp), if_pos (by simp only; omega)]
    rfl
/-- Rows that stand there are split. -/
theorem split_there (L : List (List UInt8)) : ∀ (f : Nat) (t a r : List UInt8) (acc : List (List UInt8)), t = a ++ rowsB L ++ r → (∀ s ∈ L, s.length ≤ 65535) → acc.length + L.length ≤ 1024 → L.length ≤ f →
    Sc.split f ⟨t, (a.length : Int), 0⟩ acc = Sc.split (f - L.length) ⟨t, ((a.length + (rowsB L).length : Nat) : Int), 0⟩ (acc ++ L) := by
  induction L with
  | nil => intro f t a r acc ht hs hl hf; simp [rowsB]
  | cons s L ih =>
    intro f t a r acc ht hs hl hf
    rw [List.length_cons] at hf hl
    obtain ⟨f, rfl⟩ : ∃ g, f = g + 1 := ⟨f - 1, by omega⟩
    have hr := row_there t a s (rowsB L ++ r) (by rw [ht, rowsB]; simp) (hs s (by simp))
    have hlen : t.length = a.length + (rowsB (s :: L)).length + r.length := by rw [ht, List.length_append, List.length_append]
    have hrl : (rowsB (s :: L)).length = (2 + s.length) + (rowsB L).length := by rw [rowsB, List.length_append, rowB_length]
    have h := ih f t (a ++ rowB s) r (acc ++ [s]) (by rw [ht, rowsB]; simp) (fun q hq => hs q (by simp [hq])) (by simp; omega) (by omega)
    rw [List.length_append, rowB_length] at h
    rw [Sc.split, if_pos (by simp only; omega), if_neg (by omega), hr, if_neg (by simp)]
    simp only
    rw [h, List.length_cons, show f + 1 - (L.length + 1) = f - L.length by omega, hrl, List.append_assoc, List.singleton_append, Nat.add_assoc]
theorem rowsB_long (L : List (List UInt8)) : 2 * L.length ≤ (rowsB L).length := by
  induction L with
  | nil => simp
  | cons s L ih => rw [rowsB, List.length_append, rowB_length, List.length_cons]; omega
theorem split_rowsB (L : List (List UInt8)) (hs : ∀ s ∈ L, s.length ≤ 65535) (hl : L.length ≤ 1024) : split (rowsB L) = (L, 0) := by
  have h2 := rowsB_long L
  have h := split_there L ((rowsB L).length + 1) (rowsB L) [] [] [] (by simp) hs (by simpa using hl) (by omega)
  rw [split]
  rw [show ((List.length ([] : List UInt8)) : Int) = 0 from rfl] at h
  rw [h]
  exact split_end (by simp; omega) (by simp)
theorem split_cut (L : List (List UInt8)) (s : List UInt8) (hs : ∀ q ∈ L, q.length ≤ 65535) (hs2 : s.length ≤ 65535) (hl : L.length < 1024) :
    split ((rowsB (L ++ [s])).take ((rowsB (L ++ [s])).length - 1)) = ([], 3) := by
  have e : (rowsB (L ++ [s])).take ((rowsB (L ++ [s])).length - 1) = rowsB L ++ (rowB s).take (1 + s.length) := by
    rw [rowsB_snoc, List.length_append, rowB_length, List.take_append, List.take_of_length_le (by omega)]
    congr 2
    omega
  rw [e]
  have h2 := rowsB_long L
  generalize ht : rowsB L ++ (rowB s).take (1 + s.length) = t
  have htl : t.length = (rowsB L).length + (1 + s.length) := by rw [← ht, List.length_append, List.length_take, rowB_length]; omega
  have h := split_there L (t.length + 1) t [] ((rowB s).take (1 + s.length)) [] (by rw [← ht]; simp) hs (by simp; omega) (by omega)
  rw [split]
  rw [show ((List.length ([] : List UInt8)) : Int) = 0 from rfl] at h
  rw [h]
  have hb := row_short t (rowsB L) _ s ht.symm rfl hs2
  rw [show (List.length ([] : List UInt8)) + (rowsB L).length = (rowsB L).length by simp, List.nil_append]
  rw [split_bad (by omega) (by omega) (by omega) (by rw [hb]; decide), hb]
end Go.Proofs.YtbaedepmogkkeaaGreat.Quill
