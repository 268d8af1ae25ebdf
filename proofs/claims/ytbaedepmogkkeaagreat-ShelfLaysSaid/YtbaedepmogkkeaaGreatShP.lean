/- shelf: a map as bytes, and bytes as a map. Plain. No conditions but that texts have room in a row. -/
import Derived.Test.YtbaedepmogkkeaaGreatQuillPure2
import Derived.Test.YtbaedepmogkkeaaGreatTree3
namespace Go.Proofs.YtbaedepmogkkeaaGreat.Shf
open Go Tre Quill
set_option linter.unusedVariables false
set_option linter.unusedSimpArgs false

def encP (p : Pr) : List UInt8 := rowB p.1 ++ rowB p.2
def encR : List Pr → List UInt8
  | [] => []
  | p :: l => encP p ++ encR l
def encB (L : List Pr) : List UInt8 := numB 4 L.length ++ encR L
theorem encR_app (a b : List Pr) : encR (a ++ b) = encR a ++ encR b := by
  induction a with
  | nil => rfl
  | cons p a ih => simp only [List.cons_append, encR, ih, List.append_assoc]
theorem encP_len (p : Pr) : (encP p).length = 4 + p.1.length + p.2.length := by
  unfold encP
  rw [List.length_append, rowB_length, rowB_length]; omega
theorem encR_len (L : List Pr) : (encR L).length = bytesL L := by
  induction L with
  | nil => rfl
  | cons p L ih => obtain ⟨a, b⟩ := p; simp only [encR, List.length_append, encP_len, ih, bytesL]
theorem encB_len (L : List Pr) : (encB L).length = 4 + bytesL L := by
  unfold encB
  rw [List.length_append, numB_length, encR_len]
/-- the key is not behind the last one -/
def late (acc : List Pr) (k : Key) : Bool := match acc.getLast? with
  | some p => !lt p.1 k
  | none => false
def fin (x : Sc) (acc : List Pr) : List Pr × Int := if x.fin = 0 then (acc, 0) else ([], x.fin)
def decR : Nat → Sc → List Pr → List Pr × Int
  | 0, x, acc => fin x acc
  | n + 1, x, acc => if x.bad ≠ 0 then fin x acc
    else if x.row.2.bad = 0 ∧ late acc x.row.1 = true then ([], 4)
    else decR n x.row.2.row.2 (acc ++ [(x.row.1, x.row.2.row.1)])
theorem decR_succ (n : Nat) (x : Sc) (acc : List Pr) : decR (n + 1) x acc = if x.bad ≠ 0 then fin x acc else if x.row.2.bad = 0 ∧ late acc x.row.1 = true then ([], 4) else decR n x.row.2.row.2 (acc ++ [(x.row.1, x.row.2.row.1)]) := rfl
def dec (s : List UInt8) : List Pr × Int := decR (Sc.num ⟨s, 0, 0⟩ 4).1 (Sc.num ⟨s, 0, 0⟩ 4).2 []
def Short (L : List Pr) : Prop := ∀ p ∈ L, p.1.length ≤ 65535 ∧ p.2.length ≤ 65535
theorem late_no {acc : List Pr} {k v : Key} {r : List Pr} (h : Srt (acc ++ (k, v) :: r)) : late acc k = false := by
  unfold late
  cases e : acc.getLast? with
  | none => rfl
  | some p =>
    have := h.app_lt p (List.mem_of_getLast? e) (k, v) (by simp)
    simp only [this]; rfl
theorem row2_there {t a r : List UInt8} {p : Pr} (ht : t = a ++ encP p ++ r) (h1 : p.1.length ≤ 65535) (h2 : p.2.length ≤ 65535) :
    Sc.row ⟨t, (a.length : Int), 0⟩ = (p.1, ⟨t, (((a ++ rowB p.1).length : Nat) : Int), 0⟩) ∧ Sc.row ⟨t, (((a ++ rowB p.1).length : Nat) : Int), 0⟩ = (p.2, ⟨t, (((a ++ encP p).length : Nat) : Int), 0⟩) := by
  have e1 := row_there t a p.1 (rowB p.2 ++ r) (by rw [ht, encP]; simp) h1
  have e2 := row_there t (a ++ rowB p.1) p.2 r (by rw [ht, encP]; simp) h2
  rw [show a.length + (2 + p.1.length) = (a ++ rowB p.1).length by rw [List.length_append, rowB_length]] at e1
  rw [show (a ++ rowB p.1).length + (2 + p.2.length) = (a ++ encP p).length by rw [encP, List.length_append, List.length_append, List.length_append, rowB_length, rowB_length]; omega] at e2
  exact ⟨e1, e2⟩
theorem decR_there : ∀ (L : List Pr) (t a r : List UInt8) (acc : List Pr) (n : Nat), t = a ++ encR L ++ r → Short L → Srt (acc ++ L) →
    decR (L.length + n) ⟨t, (a.length : Int), 0⟩ acc = decR n ⟨t, (((a ++ encR L).length : Nat) : Int), 0⟩ (acc ++ L)
  | [], t, a, r, acc, n, ht, hs, hso => by simp [encR]
  | p :: L, t, a, r, acc, n, ht, hs, hso => by
    obtain ⟨e1, e2⟩ := row2_there (t := t) (a := a) (p := p) (r := encR L ++ r) (by rw [ht]; simp [encR]) (hs p (by simp)).1 (hs p (by simp)).2
    rw [show (p :: L).length + n = (L.length + n) + 1 by simp; omega]
    rw [decR_succ, if_neg (by simp), e1]
    simp only
    rw [e2, if_neg (by rw [late_no (v := p.2) (r := L) (by obtain ⟨k, v⟩ := p; exact hso)]; simp)]
    have := decR_there L t (a ++ encP p) r (acc ++ [p]) n (by rw [ht]; simp [encR]) (fun q hq => hs q (by simp [hq])) (by simpa using hso)
    simp only at this ⊢
    rw [show ((p.1, p.2) : Pr) = p from rfl, this, show a ++ encP p ++ encR L = a ++ encR (p :: L) by simp [encR], List.append_assoc]
    rfl
theorem num4 (L : List Pr) (r : List UInt8) (hl : L.length < 4294967296) : Sc.num ⟨encB L ++ r, 0, 0⟩ 4 = (L.length, ⟨encB L ++ r, (((numB 4 L.length).length : Nat) : Int), 0⟩) := by
  have h := num_there (encB L ++ r) [] (numB 4 L.length) (encR L ++ r) 4 (by simp [encB]) (numB_length _ _) (by omega) (by omega)
  rw [tell_numB, Nat.mod_eq_of_lt (by show L.length < 256 ^ 4; omega)] at h
  rw [numB_length]
  exact h
theorem fin_end (t : List UInt8) (acc : List Pr) (p : Int) (hp : p = (t.length : Int)) : fin ⟨t, p, 0⟩ acc = (acc, 0) := by
  subst hp
  unfold fin Sc.fin Sc.stands
  simp
/-- a map is taken of its bytes -/
theorem dec_enc (L : List Pr) (hs : Short L) (hso : Srt L) (hl : L.length < 4294967296) : dec (encB L) = (L, 0) := by
  have hn := num4 L [] hl
  rw [List.append_nil] at hn
  unfold dec
  rw [hn]
  simp only
  have := decR_there L (encB L) (numB 4 L.length) [] [] 0 (by simp [encB]) hs (by simpa using hso)
  rw [Nat.add_zero, List.nil_append] at this
  rw [this]
  exact fin_end _ _ _ (by rfl)
theorem fin_bad (t : List UInt8) (acc : List Pr) (p b : Int) (hb : b ≠ 0) : fin ⟨t, p, b⟩ acc = ([], b) := by
  unfold fin Sc.fin
  rw [if_neg (by rw [if_pos hb]; exact hb), if_pos hb]
theorem decR_bad (n : Nat) (t : List UInt8) (acc : List Pr) (p b : Int) (hb : b ≠ 0) : decR n ⟨t, p, b⟩ acc = ([], b) := by
  cases n with
  | zero => exact fin_bad t acc p b hb
  | succ n => rw [decR_succ, if_pos hb]; exact fin_bad t acc p b hb
theorem row_bad (t : List UInt8) (p b : Int) (hb : b ≠ 0) : Sc.row ⟨t, p, b⟩ = ([], ⟨t, p, b⟩) := by
  unfold Sc.row
  have : Sc.num ⟨t, p, b⟩ 2 = (0, ⟨t, p, b⟩) := by unfold Sc.num; rw [if_pos hb]
  rw [this, if_pos hb]
/-- with the last byte gone it is cut short -/
theorem dec_cut (L : List Pr) (hs : Short L) (hso : Srt L) (hl : L.length < 4294967296) (s : List UInt8) (h : s = (encB L).take ((encB L).length - 1)) : dec s = ([], 3) := by
  rcases List.eq_nil_or_concat L with rfl | ⟨K, p, rfl⟩
  · have hlen : s.length = 3 := by rw [h, List.length_take, encB_len]; rfl
    have : Sc.num ⟨s, 0, 0⟩ 4 = (0, ⟨s, 0, 3⟩) := by
      unfold Sc.num
      rw [if_neg (by simp), if_neg (by simp [Sc.stands]), if_pos (by simp only; omega)]; rfl
    unfold dec
    rw [this]
    exact fin_bad s [] 0 3 (by decide)
  · rw [List.concat_eq_append] at *
    have hp := hs p (by simp)
    obtain ⟨c, hc⟩ : ∃ c, c = (rowB p.2).take (1 + p.2.length) := ⟨_, rfl⟩
    have e : encB (K ++ [p]) = (numB 4 (K ++ [p]).length ++ encR K ++ rowB p.1) ++ rowB p.2 := by
      unfold encB
      rw [encR_app]
      simp [encR, encP]
    have hs2 : s = (numB 4 (K ++ [p]).length ++ encR K ++ rowB p.1) ++ c := by
      rw [h, e]
      generalize numB 4 (K ++ [p]).length ++ encR K ++ rowB p.1 = P
      have hP : (P ++ rowB p.2).length - 1 = P.length + (1 + p.2.length) := by rw [List.length_append, rowB_length]; omega
      rw [hP, List.take_append, List.take_of_length_le (by omega), Nat.add_sub_cancel_left, hc]
    have hn : Sc.num ⟨s, 0, 0⟩ 4 = ((K ++ [p]).length, ⟨s, (((numB 4 (K ++ [p]).length).length : Nat) : Int), 0⟩) := by
      have h := num_there s [] (numB 4 (K ++ [p]).length) (encR K ++ rowB p.1 ++ c) 4 (by rw [hs2]; simp) (numB_length _ _) (by omega) (by omega)
      rw [tell_numB, Nat.mod_eq_of_lt (by show (K ++ [p]).length < 256 ^ 4; omega)] at h
      rw [numB_length]
      exact h
    have hd := decR_there K s (numB 4 (K ++ [p]).length) (rowB p.1 ++ c) [] 1 (by rw [hs2]; simp) (fun q hq => hs q (by simp [hq])) (by simpa using hso.app_left)
    rw [show K.length + 1 = (K ++ [p]).length by simp, List.nil_append] at hd
    have e1 := row_there s (numB 4 (K ++ [p]).length ++ encR K) p.1 c hs2 hp.1
    have e2 := row_short s (numB 4 (K ++ [p]).length ++ encR K ++ rowB p.1) c p.2 hs2 hc hp.2
    rw [show (numB 4 (K ++ [p]).length ++ encR K).length + (2 + p.1.length) = (numB 4 (K ++ [p]).length ++ encR K ++ rowB p.1).length by rw [@List.length_append _ (numB 4 (K ++ [p]).length ++ encR K) (rowB p.1), rowB_length]] at e1
    unfold dec
    rw [hn]
    simp only
    rw [hd]
    rw [decR_succ, if_neg (by simp), e1]
    simp only
    rw [if_neg (by rw [late_no (v := p.2) (r := []) hso]; simp)]
    generalize Sc.row ⟨s, (((numB 4 (K ++ [p]).length ++ encR K ++ rowB p.1).length : Nat) : Int), 0⟩ = y at *
    obtain ⟨y1, t, q, b⟩ := y
    have e2 : b = 3 := e2
    subst e2
    exact fin_bad t _ q 3 (by decide)
/-! ### bytes that are a map's -/
theorem num_inv {t a r : List UInt8} {z : Nat} (ht : t = a ++ r) (h1 : 1 ≤ z) (h8 : z ≤ 8) (h : (Sc.num ⟨t, (a.length : Int), 0⟩ (z : Int)).2.bad = 0) :
    z ≤ r.length ∧ Sc.num ⟨t, (a.length : Int), 0⟩ (z : Int) = (tell (r.take z), ⟨t, (((a ++ r.take z).length : Nat) : Int), 0⟩) := by
  have hlen : t.length = a.length + r.length := by rw [ht, List.length_append]
  by_cases hz : z ≤ r.length
  · have hl : (r.take z).length = z := by rw [List.length_take]; omega
    have := num_there t a (r.take z) (r.drop z) z (by rw [ht, List.append_assoc, List.take_append_drop]) hl h1 h8
    refine ⟨hz, ?_⟩
    rw [this, List.length_append, hl]
  · exfalso
    unfold Sc.num at h
    rw [if_neg (by simp), if_neg (by simp [Sc.stands]; omega), if_pos (by simp only; omega)] at h
    simp [Sc.fails] at h
theorem row_inv {t a r : List UInt8} (ht : t = a ++ r) (h : (Sc.row ⟨t, (a.length : Int), 0⟩).2.bad = 0) :
    ∃ s r', r = rowB s ++ r' ∧ s.length ≤ 65535 ∧ Sc.row ⟨t, (a.length : Int), 0⟩ = (s, ⟨t, (((a ++ rowB s).length : Nat) : Int), 0⟩) := by
  have hlen : t.length = a.length + r.length := by rw [ht, List.length_append]
  by_cases hb : (Sc.num ⟨t, (a.length : Int), 0⟩ 2).2.bad = 0
  · obtain ⟨h2, hn⟩ := num_inv (z := 2) ht (by omega) (by omega) hb
    have hl : (r.take 2).length = 2 := by rw [List.length_take]; omega
    have htl := tell_lt (r.take 2)
    rw [hl] at htl
    by_cases hv : tell (r.take 2) ≤ r.length - 2
    · have hsl : ((r.drop 2).take (tell (r.take 2))).length = tell (r.take 2) := by rw [List.length_take, List.length_drop]; omega
      have hrow : rowB ((r.drop 2).take (tell (r.take 2))) = r.take 2 ++ (r.drop 2).take (tell (r.take 2)) := by
        unfold rowB
        rw [hsl]
        congr 1
        have := numB_tell (r.take 2)
        rw [hl] at this
        exact this
      have e : t = a ++ rowB ((r.drop 2).take (tell (r.take 2))) ++ (r.drop 2).drop (tell (r.take 2)) := by
        rw [hrow, ht, List.append_assoc, List.append_assoc, List.take_append_drop, List.take_append_drop]
      refine ⟨(r.drop 2).take (tell (r.take 2)), (r.drop 2).drop (tell (r.take 2)), ?_, by omega, ?_⟩
      · rw [hrow, List.append_assoc, List.take_append_drop, List.take_append_drop]
      · have := row_there t a _ _ e (by omega)
        rw [this, List.length_append, rowB_length]
    · exfalso
      have hn' : Sc.num ⟨t, (a.length : Int), 0⟩ 2 = (tell (r.take 2), ⟨t, (((a ++ r.take 2).length : Nat) : Int), 0⟩) := hn
      unfold Sc.row at h
      rw [hn', if_neg (by simp), if_pos (by simp only [List.length_append, hl]; omega)] at h
      simp [Sc.fails] at h
  · exfalso
    unfold Sc.row at h
    rw [if_pos hb] at h
    exact hb h
theorem srt_snoc {acc : List Pr} {k v : Key} (h : Srt acc) (hl : late acc k = false) : Srt (acc ++ [(k, v)]) := by
  unfold Srt
  rw [List.pairwise_append]
  refine ⟨h, List.pairwise_singleton _ _, fun a ha b hb => ?_⟩
  rw [List.mem_singleton] at hb
  subst hb
  rcases List.eq_nil_or_concat acc with rfl | ⟨K, p, rfl⟩
  · cases ha
  · rw [List.concat_eq_append] at *
    unfold late at hl
    rw [List.getLast?_append] at hl
    simp at hl
    rcases List.mem_append.1 ha with ha | ha
    · exact lt_trans (h.app_lt a ha p (by simp)) hl
    · rw [List.mem_singleton] at ha; subst ha; exact hl
theorem decR_inv : ∀ (n : Nat) (t a r : List UInt8) (acc L : List Pr), t = a ++ r → Srt acc → decR n ⟨t, (a.length : Int), 0⟩ acc = (L, 0) →
    ∃ M, L = acc ++ M ∧ M.length = n ∧ r = encR M ∧ Short M ∧ Srt L
  | 0, t, a, r, acc, L, ht, hso, h => by
    have hlen : t.length = a.length + r.length := by rw [ht, List.length_append]
    have h : fin ⟨t, (a.length : Int), 0⟩ acc = (L, 0) := h
    unfold fin at h
    split at h
    · rename_i hf
      injection h with h1 _
      subst h1
      refine ⟨[], by simp, rfl, ?_, (fun _ h => by cases h), hso⟩
      unfold Sc.fin Sc.stands at hf
      simp only at hf
      rw [if_neg (by simp), if_neg (by simp; omega)] at hf
      split at hf
      · cases hf
      · exact List.eq_nil_of_length_eq_zero (by omega)
    · rename_i hf
      injection h with _ h2
      exact absurd h2 hf
  | n + 1, t, a, r, acc, L, ht, hso, h => by
    rw [decR_succ, if_neg (by simp)] at h
    by_cases hb : (Sc.row ⟨t, (a.length : Int), 0⟩).2.bad = 0
    · obtain ⟨k, r1, e1, hk, hrow⟩ := row_inv ht hb
      rw [hrow] at h
      simp only at h
      cases hlt : late acc k with
      | true => rw [hlt, if_pos (by simp)] at h; injection h with _ h2; cases h2
      | false =>
        rw [hlt, if_neg (by simp)] at h
        have ht1 : t = (a ++ rowB k) ++ r1 := by rw [ht, e1]; simp
        by_cases hb2 : (Sc.row ⟨t, (((a ++ rowB k).length : Nat) : Int), 0⟩).2.bad = 0
        · obtain ⟨v, r2, e2, hv, hrow2⟩ := row_inv ht1 hb2
          rw [hrow2] at h
          simp only at h
          obtain ⟨M, m1, m2, m3, m4, m5⟩ := decR_inv n t (a ++ rowB k ++ rowB v) r2 (acc ++ [(k, v)]) L (by rw [ht1, e2]; simp) (srt_snoc hso hlt) h
          refine ⟨(k, v) :: M, by rw [m1]; simp, by simp [m2], by rw [e1, e2, m3]; simp [encR, encP], fun q hq => ?_, m5⟩
          rcases List.mem_cons.1 hq with rfl | hq
          · exact ⟨hk, hv⟩
          · exact m4 q hq
        · exfalso
          generalize Sc.row ⟨t, (((a ++ rowB k).length : Nat) : Int), 0⟩ = y at *
          obtain ⟨y1, t', q, b⟩ := y
          rw [decR_bad n t' _ q b hb2] at h
          injection h with _ h2
          exact hb2 h2
    · exfalso
      rw [if_neg (fun e => hb e.1)] at h
      generalize Sc.row ⟨t, (a.length : Int), 0⟩ = y at *
      obtain ⟨y1, t', q, b⟩ := y
      have hb : b ≠ 0 := hb
      simp only [row_bad t' q b hb] at h
      rw [decR_bad n t' _ q b hb] at h
      injection h with _ h2
      exact hb h2
/-- bytes that are a map's are laid again -/
theorem enc_dec {s : List UInt8} {L : List Pr} (h : dec s = (L, 0)) : encB L = s ∧ Short L ∧ Srt L ∧ L.length < 4294967296 := by
  unfold dec at h
  by_cases hb : (Sc.num ⟨s, 0, 0⟩ 4).2.bad = 0
  · obtain ⟨h4, hn⟩ := num_inv (t := s) (a := []) (r := s) (z := 4) rfl (by omega) (by omega) hb
    have hn' : Sc.num ⟨s, 0, 0⟩ 4 = (tell (s.take 4), ⟨s, (((s.take 4).length : Nat) : Int), 0⟩) := hn
    rw [hn'] at h
    have hl : (s.take 4).length = 4 := by rw [List.length_take]; omega
    have htl := tell_lt (s.take 4)
    rw [hl] at htl
    obtain ⟨M, m1, m2, m3, m4, m5⟩ := decR_inv (tell (s.take 4)) s (s.take 4) (s.drop 4) [] L (by rw [List.take_append_drop]) List.Pairwise.nil h
    rw [List.nil_append] at m1
    subst m1
    refine ⟨?_, m4, m5, by omega⟩
    unfold encB
    rw [m2, ← m3]
    have := numB_tell (s.take 4)
    rw [hl] at this
    rw [this, List.take_append_drop]
  · exfalso
    generalize Sc.num ⟨s, 0, 0⟩ 4 = y at *
    obtain ⟨y1, t', q, b⟩ := y
    have hb : b ≠ 0 := hb
    rw [decR_bad y1 t' _ q b hb] at h
    injection h with _ h2
    exact hb h2
end Go.Proofs.YtbaedepmogkkeaaGreat.Shf
