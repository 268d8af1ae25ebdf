/- batch: ops scanned out of bytes: plain. No program. No conditions. -/
import Derived.Test.YtdicpbecdhaphaaBatch3
import Derived.Test.YtdicpbecdhaphaaQuillPure2
namespace Go.Proofs.Ytdicpbecdhaphaa.Av
open Go Go.RowKit Tre
set_option linter.unusedVariables false
set_option linter.unusedSimpArgs false
set_option maxRecDepth 100000

/-- an op scanned -/
def scanP (s : Quill.Sc) : OpP × Quill.Sc :=
  if (s.num 1).2.bad ≠ 0 then ((0, [], []), (s.num 1).2)
  else if (s.num 1).1 < 1 ∨ 3 < (s.num 1).1 then (((s.num 1).1, [], []), ⟨s.text, (s.num 1).2.pos, 22⟩)
  else if (s.num 1).1 = 1 then
    if ((s.num 1).2.row).2.row.2.bad = 0 then (((s.num 1).1, (s.num 1).2.row.1, (s.num 1).2.row.2.row.1), ⟨s.text, (s.num 1).2.row.2.row.2.pos, checkP ((s.num 1).1, (s.num 1).2.row.1, (s.num 1).2.row.2.row.1)⟩)
    else (((s.num 1).1, (s.num 1).2.row.1, (s.num 1).2.row.2.row.1), (s.num 1).2.row.2.row.2)
  else
    if (s.num 1).2.row.2.bad = 0 then (((s.num 1).1, (s.num 1).2.row.1, []), ⟨s.text, (s.num 1).2.row.2.pos, checkP ((s.num 1).1, (s.num 1).2.row.1, [])⟩)
    else (((s.num 1).1, (s.num 1).2.row.1, []), (s.num 1).2.row.2)
def scanN : Nat → Quill.Sc → List OpP × Quill.Sc
  | 0, s => ([], s)
  | n + 1, s => if (scanP s).2.bad ≠ 0 then ([], (scanP s).2) else ((scanP s).1 :: (scanN n (scanP s).2).1, (scanN n (scanP s).2).2)
/-- ops of bytes, or why there are none -/
def decOps (s : List UInt8) : List OpP × Int :=
  if (Crc.opened s).2 ≠ 0 then ([], (Crc.opened s).2)
  else if 40 < (Quill.Sc.num ⟨(Crc.opened s).1, 0, 0⟩ 1).1 then ([], 24)
  else if (scanN (Quill.Sc.num ⟨(Crc.opened s).1, 0, 0⟩ 1).1 (Quill.Sc.num ⟨(Crc.opened s).1, 0, 0⟩ 1).2).2.fin ≠ 0 then ([], (scanN (Quill.Sc.num ⟨(Crc.opened s).1, 0, 0⟩ 1).1 (Quill.Sc.num ⟨(Crc.opened s).1, 0, 0⟩ 1).2).2.fin)
  else if 1400 < s.length then ([], 7)
  else ((scanN (Quill.Sc.num ⟨(Crc.opened s).1, 0, 0⟩ 1).1 (Quill.Sc.num ⟨(Crc.opened s).1, 0, 0⟩ 1).2).1, 0)

theorem tell_one (b : UInt8) : Quill.tell [b] = b.toNat := by rw [Quill.tell_cons, Quill.tell_nil]; simp
/-- an op that stands there is scanned -/
theorem scan_there (t a r : List UInt8) (o : OpP) (h0 : checkP o = 0) (ht : t = a ++ layB o ++ r) : scanP ⟨t, (a.length : Int), 0⟩ = (o, ⟨t, ((a.length + sizeO o : Nat) : Int), 0⟩) := by
  obtain ⟨h1, h3, hk, hv, _, hz⟩ := checkP_zero h0
  obtain ⟨n, k, v⟩ := o
  have h1 : 1 ≤ n := h1
  have h3 : n ≤ 3 := h3
  have hk : k.length ≤ 100 := hk
  have hv : v.length ≤ 900 := hv
  have hz : 1 < n → v = [] := hz
  have e1 : layB (n, k, v) = [UInt8.ofNat n] ++ (Quill.rowB k ++ if n = 1 then Quill.rowB v else []) := by unfold layB; simp only [List.append_assoc]
  have hn := Quill.num_there t a [UInt8.ofNat n] ((Quill.rowB k ++ if n = 1 then Quill.rowB v else []) ++ r) 1 (by rw [ht, e1]; simp only [List.append_assoc]) rfl (by omega) (by omega)
  rw [tell_one, UInt8.toNat_ofNat_of_lt' (by show n < 256; omega)] at hn
  have hn : Quill.Sc.num ⟨t, (a.length : Int), 0⟩ 1 = (n, ⟨t, ((a.length + 1 : Nat) : Int), 0⟩) := hn
  have hr := Quill.row_there t (a ++ [UInt8.ofNat n]) k ((if n = 1 then Quill.rowB v else []) ++ r) (by rw [ht, e1]; simp only [List.append_assoc]) (by omega)
  rw [show (a ++ [UInt8.ofNat n]).length = a.length + 1 by simp] at hr
  unfold scanP
  rw [hn, if_neg (by simp), if_neg (by simp only; omega)]
  simp only
  rw [hr]
  by_cases k1 : n = 1
  · rw [if_pos k1]
    have hr2 := Quill.row_there t (a ++ [UInt8.ofNat n] ++ Quill.rowB k) v r (by rw [ht, e1, if_pos k1]; simp only [List.append_assoc]) (by omega)
    rw [show (a ++ [UInt8.ofNat n] ++ Quill.rowB k).length = a.length + 1 + (2 + k.length) by simp [Quill.rowB_length]; omega] at hr2
    simp only
    rw [hr2, if_pos rfl, h0]
    unfold sizeO
    rw [if_pos k1]
    simp only
    congr 3
    omega
  · rw [if_neg k1, if_pos rfl]
    have := hz (by omega)
    subst this
    rw [h0]
    unfold sizeO
    rw [if_neg k1]
    simp only
    congr 3
    omega
theorem scanN_there (t r : List UInt8) : ∀ (l : List OpP) (a : List UInt8), (∀ o ∈ l, checkP o = 0) → t = a ++ laysB l ++ r → scanN l.length ⟨t, (a.length : Int), 0⟩ = (l, ⟨t, ((a.length + sizeL l : Nat) : Int), 0⟩)
  | [], a, _, _ => rfl
  | o :: l, a, h, ht => by
    have h1 := scan_there t a (laysB l ++ r) o (h o List.mem_cons_self) (by rw [ht]; simp only [laysB, List.append_assoc])
    have h2 := scanN_there t r l (a ++ layB o) (fun x hx => h x (List.mem_cons_of_mem _ hx)) (by rw [ht]; simp only [laysB, List.append_assoc])
    rw [List.length_append, layB_len] at h2
    show (if (scanP ⟨t, (a.length : Int), 0⟩).2.bad ≠ 0 then _ else _) = _
    rw [h1, if_neg (by simp)]
    simp only
    rw [h2]
    simp only [sizeL]
    rw [Nat.add_assoc]
theorem fin_zero (t : List UInt8) : Quill.Sc.fin ⟨t, (t.length : Int), 0⟩ = 0 := by
  unfold Quill.Sc.fin
  rw [if_neg (by simp), if_neg (by simp [Quill.Sc.stands]), if_neg (by simp)]
theorem dec_enc {l : List OpP} (h : (encOps l).2 = 0) : decOps (encOps l).1 = (l, 0) ∧ (encOps l).1.length = 5 + sizeL l ∧ 5 + sizeL l ≤ 1400 ∧ checkL l = 0 := by
  unfold encOps at h ⊢
  by_cases h0 : checkL l ≠ 0
  · rw [if_pos h0] at h; exact absurd h h0
  rw [if_neg h0] at h ⊢
  by_cases h1 : 1400 < 5 + sizeL l
  · rw [if_pos h1] at h; exact absurd h (by decide)
  rw [if_neg h1]
  have h0 : checkL l = 0 := by simpa using h0
  obtain ⟨hn, hz⟩ := checkL_zero h0
  have hb : (bodyB l).length = 1 + sizeL l := by show (laysB l).length + 1 = _; rw [laysB_len]; omega
  have hlen : (Crc.sealed (bodyB l)).length = 5 + sizeL l := by rw [Crc.sealed_length, hb]; omega
  refine ⟨?_, hlen, by omega, h0⟩
  have hnum := Quill.num_there (bodyB l) [] [UInt8.ofNat l.length] (laysB l) 1 rfl rfl (by omega) (by omega)
  rw [tell_one, UInt8.toNat_ofNat_of_lt' (by show l.length < 256; omega)] at hnum
  have hnum : Quill.Sc.num ⟨bodyB l, 0, 0⟩ 1 = (l.length, ⟨bodyB l, 1, 0⟩) := hnum
  have hsc := scanN_there (bodyB l) [] l [UInt8.ofNat l.length] hz (by simp [bodyB])
  have hsc : scanN l.length ⟨bodyB l, 1, 0⟩ = (l, ⟨bodyB l, ((1 + sizeL l : Nat) : Int), 0⟩) := hsc
  have hf := fin_zero (bodyB l)
  rw [hb] at hf
  unfold decOps
  rw [Crc.opened_sealed]
  simp only
  rw [if_neg (by simp), hnum]
  simp only
  rw [if_neg (by omega), hsc]
  simp only
  rw [hf, if_neg (by simp), if_neg (by omega)]
/-- a number that was scanned stood there -/
theorem num_back (t : List UInt8) (p z : Nat) (h1 : 1 ≤ z) (h8 : z ≤ 8) (h : (Quill.Sc.num ⟨t, (p : Int), 0⟩ (z : Int)).2.bad = 0) :
    p + z ≤ t.length ∧ Quill.Sc.num ⟨t, (p : Int), 0⟩ (z : Int) = (Quill.tell ((t.drop p).take z), ⟨t, ((p + z : Nat) : Int), 0⟩) := by
  unfold Quill.Sc.num at h ⊢
  rw [if_neg (by simp)] at h ⊢
  by_cases h2 : Quill.Sc.stands ⟨t, (p : Int), 0⟩ = false ∨ (z : Int) < 1 ∨ 8 < (z : Int)
  · rw [if_pos h2] at h; simp [Quill.Sc.fails] at h
  rw [if_neg h2] at h ⊢
  by_cases h3 : (t.length : Int) - (p : Int) < (z : Int)
  · rw [if_pos h3] at h; simp [Quill.Sc.fails] at h
  rw [if_neg h3]
  exact ⟨by omega, by simp only [Int.toNat_natCast]; rw [Int.natCast_add]⟩
theorem row_back (t : List UInt8) (p : Nat) (h : (Quill.Sc.row ⟨t, (p : Int), 0⟩).2.bad = 0) :
    ∃ r, p + (2 + r.length) ≤ t.length ∧ t.drop p = Quill.rowB r ++ t.drop (p + (2 + r.length)) ∧ Quill.Sc.row ⟨t, (p : Int), 0⟩ = (r, ⟨t, ((p + (2 + r.length) : Nat) : Int), 0⟩) := by
  unfold Quill.Sc.row at h ⊢
  by_cases hb : (Quill.Sc.num ⟨t, (p : Int), 0⟩ 2).2.bad ≠ 0
  · rw [if_pos hb] at h; exact absurd h hb
  rw [if_neg hb] at h ⊢
  obtain ⟨hl, hn⟩ := num_back t p 2 (by omega) (by omega) (by simpa using hb)
  have hn : Quill.Sc.num ⟨t, (p : Int), 0⟩ 2 = (Quill.tell ((t.drop p).take 2), ⟨t, ((p + 2 : Nat) : Int), 0⟩) := hn
  rw [hn] at h ⊢
  simp only at h ⊢
  obtain ⟨n, hnd⟩ : ∃ n, n = Quill.tell ((t.drop p).take 2) := ⟨_, rfl⟩
  rw [← hnd] at h ⊢
  by_cases h3 : (t.length : Int) - ((p + 2 : Nat) : Int) < (n : Int)
  · rw [if_pos h3] at h; simp [Quill.Sc.fails] at h
  rw [if_neg h3]
  have hd : ((t.drop (p + 2)).take n).length = n := by rw [List.length_take, List.length_drop]; omega
  refine ⟨(t.drop (p + 2)).take n, by rw [hd]; omega, ?_, ?_⟩
  · have h2 : ((t.drop p).take 2).length = 2 := by rw [List.length_take, List.length_drop]; omega
    have e := Quill.numB_tell ((t.drop p).take 2)
    rw [h2, ← hnd] at e
    rw [Quill.rowB, hd, e]
    conv => lhs; rw [← List.take_append_drop 2 (t.drop p), List.drop_drop, ← List.take_append_drop n (t.drop (p + 2)), List.drop_drop]
    rw [List.append_assoc, Nat.add_assoc]
  · rw [hd, Int.toNat_natCast]
    congr 3
    omega
theorem scan_back (t : List UInt8) (p : Nat) (h : (scanP ⟨t, (p : Int), 0⟩).2.bad = 0) :
    ∃ o, checkP o = 0 ∧ p + sizeO o ≤ t.length ∧ t.drop p = layB o ++ t.drop (p + sizeO o) ∧ scanP ⟨t, (p : Int), 0⟩ = (o, ⟨t, ((p + sizeO o : Nat) : Int), 0⟩) := by
  unfold scanP at h ⊢
  by_cases hb : (Quill.Sc.num ⟨t, (p : Int), 0⟩ 1).2.bad ≠ 0
  · rw [if_pos hb] at h; exact absurd h hb
  rw [if_neg hb] at h ⊢
  obtain ⟨hl, hn⟩ := num_back t p 1 (by omega) (by omega) (by simpa using hb)
  have hn : Quill.Sc.num ⟨t, (p : Int), 0⟩ 1 = (Quill.tell ((t.drop p).take 1), ⟨t, ((p + 1 : Nat) : Int), 0⟩) := hn
  have hd1 : (t.drop p).take 1 = [t[p]] := by rw [List.drop_eq_getElem_cons (by omega)]; rfl
  rw [hd1, tell_one] at hn
  obtain ⟨b, hbd⟩ : ∃ b, b = t[p] := ⟨_, rfl⟩
  have e0 : t.drop p = [b] ++ t.drop (p + 1) := by rw [hbd, List.drop_eq_getElem_cons (by omega)]; rfl
  rw [← hbd] at hn
  rw [hn] at h ⊢
  simp only at h ⊢
  by_cases hk : b.toNat < 1 ∨ 3 < b.toNat
  · rw [if_pos hk] at h; exact absurd (show (22 : Int) = 0 from h) (by decide)
  rw [if_neg hk] at h ⊢
  have ebb : UInt8.ofNat b.toNat = b := UInt8.ofNat_toNat
  by_cases k1 : b.toNat = 1
  · rw [if_pos k1] at h ⊢
    have hb2 : (Quill.Sc.row ⟨t, ((p + 1 : Nat) : Int), 0⟩).2.row.2.bad = 0 := by
      by_cases q : (Quill.Sc.row ⟨t, ((p + 1 : Nat) : Int), 0⟩).2.row.2.bad = 0
      · exact q
      · rw [if_neg q] at h; exact h
    rw [if_pos hb2] at h ⊢
    have hb1 : (Quill.Sc.row ⟨t, ((p + 1 : Nat) : Int), 0⟩).2.bad = 0 := by
      apply Classical.byContradiction
      intro q
      have e1 : ∀ s : Quill.Sc, s.bad ≠ 0 → s.row.2.bad ≠ 0 := fun s hs => by
        have e2 : s.num 2 = (0, s) := by unfold Quill.Sc.num; rw [if_pos hs]
        unfold Quill.Sc.row
        rw [e2, if_pos hs]; exact hs
      exact e1 _ q hb2
    obtain ⟨k, l1, d1, r1⟩ := row_back t (p + 1) hb1
    rw [r1] at hb2 h ⊢
    simp only at hb2 h ⊢
    obtain ⟨v, l2, d2, r2⟩ := row_back t (p + 1 + (2 + k.length)) hb2
    rw [r2] at h ⊢
    simp only at h ⊢
    have hs : sizeO (b.toNat, k, v) = 1 + (2 + k.length) + (2 + v.length) := by unfold sizeO; rw [if_pos k1]; simp only; omega
    refine ⟨(b.toNat, k, v), h, by rw [hs]; omega, ?_, ?_⟩
    · unfold layB
      rw [if_pos k1, hs, e0, d1, d2, ebb]
      simp only [List.append_assoc]
      congr 4
      omega
    · rw [hs, h]
      congr 3
      omega
  · rw [if_neg k1] at h ⊢
    have hb1 : (Quill.Sc.row ⟨t, ((p + 1 : Nat) : Int), 0⟩).2.bad = 0 := by
      by_cases q : (Quill.Sc.row ⟨t, ((p + 1 : Nat) : Int), 0⟩).2.bad = 0
      · exact q
      · rw [if_neg q] at h; exact h
    rw [if_pos hb1] at h ⊢
    obtain ⟨k, l1, d1, r1⟩ := row_back t (p + 1) hb1
    rw [r1] at h ⊢
    simp only at h ⊢
    have hs : sizeO (b.toNat, k, []) = 1 + (2 + k.length) := by unfold sizeO; rw [if_neg k1]; simp only; omega
    refine ⟨(b.toNat, k, []), h, by rw [hs]; omega, ?_, ?_⟩
    · unfold layB
      rw [if_neg k1, hs, e0, d1, ebb]
      simp only [List.append_assoc, List.append_nil, List.nil_append]
      congr 3
      omega
    · rw [hs, h]
      congr 3
      omega
theorem scanN_back (t : List UInt8) : ∀ (n p : Nat), (scanN n ⟨t, (p : Int), 0⟩).2.bad = 0 →
    ∃ L, L.length = n ∧ (∀ o ∈ L, checkP o = 0) ∧ t.drop p = laysB L ++ t.drop (p + sizeL L) ∧ scanN n ⟨t, (p : Int), 0⟩ = (L, ⟨t, ((p + sizeL L : Nat) : Int), 0⟩)
  | 0, p, _ => ⟨[], rfl, (fun o h => by cases h), rfl, rfl⟩
  | n + 1, p, h => by
    have e : scanN (n + 1) ⟨t, (p : Int), 0⟩ = if (scanP ⟨t, (p : Int), 0⟩).2.bad ≠ 0 then ([], (scanP ⟨t, (p : Int), 0⟩).2) else ((scanP ⟨t, (p : Int), 0⟩).1 :: (scanN n (scanP ⟨t, (p : Int), 0⟩).2).1, (scanN n (scanP ⟨t, (p : Int), 0⟩).2).2) := rfl
    rw [e] at h ⊢
    by_cases hb : (scanP ⟨t, (p : Int), 0⟩).2.bad ≠ 0
    · rw [if_pos hb] at h; exact absurd h hb
    rw [if_neg hb] at h ⊢
    obtain ⟨o, ho, hl, hd, hs⟩ := scan_back t p (by simpa using hb)
    rw [hs] at h ⊢
    simp only at h ⊢
    obtain ⟨L, h1, h2, h3, h4⟩ := scanN_back t n (p + sizeO o) h
    refine ⟨o :: L, by rw [List.length_cons, h1], fun x hx => ?_, ?_, ?_⟩
    · rcases List.mem_cons.1 hx with rfl | hx
      · exact ho
      · exact h2 x hx
    · rw [hd, h3]; simp only [laysB, sizeL, List.append_assoc]; rw [Nat.add_assoc]
    · rw [h4]; simp only [sizeL]; rw [Nat.add_assoc]
theorem fin_back {s : Quill.Sc} (h : s.fin = 0) : s.bad = 0 ∧ (s.text.length : Int) ≤ s.pos := by
  unfold Quill.Sc.fin at h
  by_cases hb : s.bad ≠ 0
  · rw [if_pos hb] at h; exact absurd h hb
  rw [if_neg hb] at h
  by_cases h2 : s.stands = false
  · rw [if_pos h2] at h; exact absurd h (by decide)
  rw [if_neg h2] at h
  by_cases h3 : s.pos < (s.text.length : Int)
  · rw [if_pos h3] at h; exact absurd h (by decide)
  exact ⟨by simpa using hb, by omega⟩
theorem opened_back {s : List UInt8} (h : (Crc.opened s).2 = 0) : s = Crc.sealed (Crc.opened s).1 := by
  by_cases h4 : s.length < 4
  · rw [Crc.opened_short h4] at h; exact absurd h (by decide)
  cases hq : (Crc.four (Crc.sum (s.take (s.length - 4))) == s.drop (s.length - 4)) with
  | false => rw [Crc.opened_no h4 hq] at h; exact absurd h (by decide)
  | true =>
    rw [Crc.opened_yes h4 hq]
    have := Crc.sealed_eq s
    rw [hq] at this
    exact (by simpa using this : Crc.sealed (s.take (s.length - 4)) = s).symm
theorem scanN_stop : ∀ (n : Nat) (s : Quill.Sc), s.bad ≠ 0 → (scanN n s).2.bad ≠ 0
  | 0, s, h => h
  | n + 1, s, h => by
    have e2 : s.num 1 = (0, s) := by unfold Quill.Sc.num; rw [if_pos h]
    have e3 : (scanP s).2.bad ≠ 0 := by unfold scanP; rw [e2, if_pos h]; exact h
    show (if (scanP s).2.bad ≠ 0 then _ else _ : List OpP × Quill.Sc).2.bad ≠ 0
    rw [if_pos e3]; exact e3
theorem enc_dec {s : List UInt8} (h : (decOps s).2 = 0) : encOps (decOps s).1 = (s, 0) ∧ (∀ o ∈ (decOps s).1, checkP o = 0) ∧ (decOps s).1.length ≤ 40 := by
  unfold decOps at h ⊢
  by_cases h0 : (Crc.opened s).2 ≠ 0
  · rw [if_pos h0] at h; exact absurd h h0
  rw [if_neg h0] at h ⊢
  have hs := opened_back (by simpa using h0 : (Crc.opened s).2 = 0)
  generalize (Crc.opened s).1 = t at h hs ⊢
  by_cases h40 : 40 < (Quill.Sc.num ⟨t, 0, 0⟩ 1).1
  · rw [if_pos h40] at h; exact absurd h (by decide)
  rw [if_neg h40] at h ⊢
  obtain ⟨n, hn⟩ : ∃ n, n = (Quill.Sc.num ⟨t, 0, 0⟩ 1).1 := ⟨_, rfl⟩
  rw [← hn] at h h40 ⊢
  by_cases hf : (scanN n (Quill.Sc.num ⟨t, 0, 0⟩ 1).2).2.fin ≠ 0
  · rw [if_pos hf] at h; exact absurd h hf
  rw [if_neg hf] at h ⊢
  by_cases hl : 1400 < s.length
  · rw [if_pos hl] at h; exact absurd h (by decide)
  rw [if_neg hl]
  obtain ⟨hb, hp⟩ := fin_back (by simpa using hf)
  have hb0 : (Quill.Sc.num ⟨t, ((0 : Nat) : Int), 0⟩ ((1 : Nat) : Int)).2.bad = 0 := by
    apply Classical.byContradiction
    intro q
    exact scanN_stop n _ q hb
  obtain ⟨hl1, hnum⟩ := num_back t 0 1 (by omega) (by omega) hb0
  have hnum : Quill.Sc.num ⟨t, 0, 0⟩ 1 = (Quill.tell ((t.drop 0).take 1), ⟨t, ((1 : Nat) : Int), 0⟩) := hnum
  cases t with
  | nil => simp at hl1
  | cons b t =>
    rw [hnum] at hn hb hp ⊢
    have hn : n = b.toNat := hn.trans (tell_one b)
    obtain ⟨L, q1, q2, q3, q4⟩ := scanN_back (b :: t) n 1 hb
    simp only at hb hp
    rw [q4] at hp ⊢
    simp only at hp ⊢
    have hnil : (b :: t).drop (1 + sizeL L) = [] := List.drop_eq_nil_of_le (by omega)
    rw [hnil, List.append_nil] at q3
    have q3 : t = laysB L := q3
    have hbody : bodyB L = b :: t := by
      show UInt8.ofNat L.length :: laysB L = _
      rw [q1, hn, UInt8.ofNat_toNat, ← q3]
    have hc : checkL L = 0 := by
      unfold checkL
      rw [if_neg (by omega)]
      have : ∀ M : List OpP, (∀ o ∈ M, checkP o = 0) → firstE M = 0 := by
        intro M
        induction M with
        | nil => intro _; rfl
        | cons o M ih => intro hM; show (if checkP o = 0 then _ else _) = _; rw [if_pos (hM o List.mem_cons_self)]; exact ih fun x hx => hM x (List.mem_cons_of_mem _ hx)
      exact this L q2
    have hsl : s.length = 5 + sizeL L := by
      rw [hs, Crc.sealed_length, ← hbody]; show (laysB L).length + 1 + 4 = _; rw [laysB_len]; omega
    refine ⟨?_, q2, by omega⟩
    unfold encOps
    rw [hc, if_neg (by simp), if_neg (by omega), hbody, ← hs]
end Go.Proofs.Ytdicpbecdhaphaa.Av
