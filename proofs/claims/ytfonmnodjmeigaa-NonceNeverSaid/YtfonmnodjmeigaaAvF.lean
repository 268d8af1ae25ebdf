/- The abstract machine: a region that draws its order does what it does in the text's order: states in the midst of a region. No program's law is stated here. No conditions. -/
import Derived.Test.YtfonmnodjmeigaaAvE
namespace Go.Proofs.Ytfonmnodjmeigaa.Av
open Go Go.RowKit
set_option linter.unusedVariables false
set_option linter.unusedSimpArgs false

def Suf (q : Rec) (C R : List Rec) : Prop := ∃ A, R = A ++ q :: C
theorem Suf.cons {q r : Rec} {C R : List Rec} (h : Suf q C R) : Suf q C (r :: R) := by
  obtain ⟨A, rfl⟩ := h; exact ⟨r :: A, rfl⟩
theorem Suf.head (r : Rec) (R : List Rec) : Suf r R (r :: R) := ⟨[], rfl⟩
theorem Suf.lt {q : Rec} {C R : List Rec} (h : Suf q C R) : C.length < R.length := by
  obtain ⟨A, rfl⟩ := h; simp; omega
theorem suf_of {R : List Rec} : ∀ {i : Nat}, i < R.length → ∃ q C, Suf q C R ∧ C.length = i := by
  induction R with
  | nil => intro i h; simp at h
  | cons r R ih =>
    intro i h
    by_cases e : i = R.length
    · exact ⟨r, R, .head r R, e.symm⟩
    · obtain ⟨q, C, h1, h2⟩ := ih (i := i) (by simp at h; omega)
      exact ⟨q, C, h1.cons, h2⟩
section
variable {n0 : Nat} {sl0 : Sl} {h0 : Hp} {S S' : Nat → Bool}
theorem slS_cons (r : Rec) (rs : List Rec) : slS sl0 S (r :: rs) = if S rs.length then putR r (slS sl0 S rs) else slS sl0 S rs := rfl
theorem hpS_cons (r : Rec) (rs : List Rec) : hpS h0 S (r :: rs) = if S rs.length then r.d ++ hpS h0 S rs else hpS h0 S rs := rfl
theorem slR_cons (r : Rec) (rs : List Rec) : slR sl0 (r :: rs) = putR r (slR sl0 rs) := rfl
theorem view_cons (mask : Nat) (r : Rec) (rs : List Rec) : viewOf mask (dsR (r :: rs)) h0 = if hasBit mask rs.length then r.d ++ viewOf mask (dsR rs) h0 else viewOf mask (dsR rs) h0 := by
  simp only [dsR]
  cases hd : r.d with
  | nil =>
    rw [show pushD rs.length [] (dsR rs) = dsR rs from rfl]
    split <;> rfl
  | cons x d =>
    show (match hasBit mask rs.length with | true => (x :: d) ++ viewOf mask (dsR rs) h0 | false => viewOf mask (dsR rs) h0) = _
    cases h : hasBit mask rs.length <;> rfl
theorem slS_same {t : Nat} : ∀ {R : List Rec} {i : Nat}, i ≤ R.length → (∀ q C, Suf q C R → i ≤ C.length → q.o.dst = some t → S C.length = false) → (∀ q C, Suf q C R → C.length < i → q.o.dst = some t → S C.length = true) →
    look (slS sl0 S R) t = look (slR sl0 (R.drop (R.length - i))) t
  | [], i, hi, _, _ => by simp [slS, slR]
  | r :: rs, i, hi, h1, h2 => by
    by_cases hlt : i ≤ rs.length
    · have ih := slS_same (t := t) (R := rs) hlt (fun q C hs => h1 q C hs.cons) (fun q C hs => h2 q C hs.cons)
      have e : (r :: rs).drop ((r :: rs).length - i) = rs.drop (rs.length - i) := by
        have : (r :: rs).length - i = (rs.length - i) + 1 := by simp only [List.length_cons]; omega
        rw [this]; rfl
      rw [e, ← ih, slS_cons]
      split
      · rename_i hS
        rw [look_putR]
        split
        · rename_i hd
          have := h1 r rs (.head r rs) hlt hd
          rw [hS] at this; cases this
        · rfl
      · rfl
    · have hi' : i = rs.length + 1 := by simp at hi; omega
      have e : (r :: rs).drop ((r :: rs).length - i) = r :: rs := by simp [hi']
      have ih := slS_same (t := t) (R := rs) (i := rs.length) (Nat.le_refl _) (fun q C hs hl => absurd hs.lt (by omega)) (fun q C hs hl => h2 q C hs.cons (by omega))
      rw [Nat.sub_self, List.drop_zero] at ih
      rw [e, slS_cons, slR_cons]
      by_cases hd : r.o.dst = some t
      · rw [if_pos (h2 r rs (.head r rs) (by omega) hd), look_putR, look_putR, if_pos hd, if_pos hd]
      · split
        · rw [look_putR, look_putR, if_neg hd, if_neg hd, ih]
        · rw [look_putR, if_neg hd, ih]
theorem hpS_same {x mask : Nat} : ∀ {R : List Rec} {i : Nat}, i ≤ R.length → (∀ q C, Suf q C R → i ≤ C.length → S C.length = true → look q.d x = none) → (∀ q C, Suf q C R → C.length < i → look q.d x ≠ none → S C.length = hasBit mask C.length) →
    look (hpS h0 S R) x = look (viewOf mask (dsR (R.drop (R.length - i))) h0) x
  | [], i, hi, _, _ => by simp [hpS, dsR, viewOf]
  | r :: rs, i, hi, h1, h2 => by
    by_cases hlt : i ≤ rs.length
    · have ih := hpS_same (x := x) (mask := mask) (R := rs) hlt (fun q C hs => h1 q C hs.cons) (fun q C hs => h2 q C hs.cons)
      have e : (r :: rs).drop ((r :: rs).length - i) = rs.drop (rs.length - i) := by
        have : (r :: rs).length - i = (rs.length - i) + 1 := by simp only [List.length_cons]; omega
        rw [this]; rfl
      rw [e, ← ih, hpS_cons]
      split
      · rename_i hS
        rw [look_app, h1 r rs (.head r rs) hlt hS]
      · rfl
    · have hi' : i = rs.length + 1 := by simp at hi; omega
      have e : (r :: rs).drop ((r :: rs).length - i) = r :: rs := by simp [hi']
      have ih := hpS_same (x := x) (mask := mask) (R := rs) (i := rs.length) (Nat.le_refl _) (fun q C hs hl => absurd hs.lt (by omega)) (fun q C hs hl => h2 q C hs.cons (by omega))
      rw [Nat.sub_self, List.drop_zero] at ih
      rw [e, hpS_cons, view_cons]
      by_cases hd : look r.d x = none
      · cases hb : hasBit mask rs.length <;> cases hS : S rs.length <;> simp [look_app, hd, ih]
      · have := h2 r rs (.head r rs) (by omega) hd
        cases hb : hasBit mask rs.length
        · rw [hb] at this; simp [this, ih]
        · rw [hb] at this; simp [this, look_app, ih]
theorem slS_congr : ∀ {R : List Rec}, (∀ k, k < R.length → S k = S' k) → slS sl0 S R = slS sl0 S' R
  | [], _ => rfl
  | r :: rs, h => by
    rw [slS_cons, slS_cons, h rs.length (by simp), slS_congr (R := rs) fun k hk => h k (by simp; omega)]
theorem hpS_congr : ∀ {R : List Rec}, (∀ k, k < R.length → S k = S' k) → hpS h0 S R = hpS h0 S' R
  | [], _ => rfl
  | r :: rs, h => by
    rw [hpS_cons, hpS_cons, h rs.length (by simp), hpS_congr (R := rs) fun k hk => h k (by simp; omega)]
theorem slS_add {t i : Nat} {r : Rec} {B : List Rec} (hB : B.length = i) (hS : S i = false) (h1 : ∀ k, k ≠ i → S' k = S k) (h2 : S' i = true) : ∀ (A : List Rec),
    (∀ q C, Suf q C (A ++ r :: B) → i < C.length → S C.length = true → r.o.dst = some t → q.o.dst = some t → False) →
    look (slS sl0 S' (A ++ r :: B)) t = if r.o.dst = some t then some r.v else look (slS sl0 S (A ++ r :: B)) t
  | [], _ => by
    have e : slS sl0 S' B = slS sl0 S B := slS_congr fun k hk => h1 k (by omega)
    simp only [List.nil_append]
    rw [slS_cons, slS_cons, hB, h2, hS, e]
    simp [look_putR]
  | q :: A, h => by
    have ih := slS_add hB hS h1 h2 A (fun q' C hs => h q' C hs.cons)
    have hk : i < (A ++ r :: B).length := by simp; omega
    simp only [List.cons_append]
    rw [slS_cons, slS_cons, h1 _ (by omega)]
    split
    · rename_i hSk
      rw [look_putR, look_putR, ih]
      by_cases hq : q.o.dst = some t
      · by_cases hr : r.o.dst = some t
        · exact absurd hq (fun _ => h q _ (.head q _) hk hSk hr hq)
        · rw [if_pos hq, if_neg hr, if_pos hq]
      · rw [if_neg hq, if_neg hq]
    · exact ih
theorem hpS_add {x i : Nat} {r : Rec} {B : List Rec} (hB : B.length = i) (hS : S i = false) (h1 : ∀ k, k ≠ i → S' k = S k) (h2 : S' i = true) : ∀ (A : List Rec),
    (∀ q C, Suf q C (A ++ r :: B) → i < C.length → S C.length = true → look r.d x ≠ none → look q.d x = none) →
    look (hpS h0 S' (A ++ r :: B)) x = look (r.d ++ hpS h0 S (A ++ r :: B)) x
  | [], _ => by
    have e : hpS h0 S' B = hpS h0 S B := hpS_congr fun k hk => h1 k (by omega)
    simp only [List.nil_append]
    rw [hpS_cons, hpS_cons, hB, h2, hS, e]
    simp
  | q :: A, h => by
    have ih := hpS_add hB hS h1 h2 A (fun q' C hs => h q' C hs.cons)
    have hk : i < (A ++ r :: B).length := by simp; omega
    simp only [List.cons_append]
    rw [hpS_cons, hpS_cons, h1 _ (by omega)]
    split
    · rename_i hSk
      rw [look_app, look_app, look_app, ih, look_app]
      cases hr : look r.d x with
      | none => simp
      | some y =>
        have := h q _ (.head q _) hk hSk (by rw [hr]; simp)
        rw [this]
    · exact ih
end
section
variable {P : Program} {ops : Array Oper} {m n0 : Nat} {sl0 : Sl} {h0 : Hp} {ms : List Nat} {S S' : Nat → Bool}
theorem allOk_suf : ∀ {R : List Rec}, AllOk P ops m n0 sl0 h0 ms R → ∀ {q C}, Suf q C R → RecOk P ops m n0 sl0 h0 ms q C ∧ AllOk P ops m n0 sl0 h0 ms C
  | [], _, q, C, hs => by obtain ⟨A, h⟩ := hs; cases A <;> cases h
  | r :: rs, h, q, C, hs => by
    obtain ⟨A, hA⟩ := hs
    cases A with
    | nil => injection hA with h1 h2; subst h1 h2; exact h
    | cons _ A => injection hA with _ h2; exact allOk_suf h.2 ⟨A, h2⟩
theorem nx_le : ∀ {R : List Rec}, AllOk P ops m n0 sl0 h0 ms R → n0 ≤ nxR n0 R ∧ ∀ {q C}, Suf q C R → n0 ≤ q.nx ∧ q.nx + q.n ≤ nxR n0 R
  | [], _ => ⟨Nat.le_refl _, fun hs => by have := hs.lt; simp at this⟩
  | r :: rs, h => by
    obtain ⟨h1, h2⟩ := nx_le h.2
    have hnx : r.nx = nxR n0 rs := h.1.2.2.1
    refine ⟨by simp only [nxR]; omega, fun {q C} hs => ?_⟩
    obtain ⟨A, hA⟩ := hs
    cases A with
    | nil => injection hA with e1 e2; subst e1 e2; simp only [nxR]; omega
    | cons _ A =>
      injection hA with _ e2
      have := h2 ⟨A, e2⟩
      simp only [nxR]; omega
theorem suf_in {R B C : List Rec} {q r : Rec} (hq : Suf q C R) (hr : Suf r B R) (hlt : C.length < B.length) : Suf q C B := by
  obtain ⟨A, rfl⟩ := hr
  obtain ⟨A2, hA⟩ := hq
  have h1 : (A2 ++ [q]) ++ C = (A ++ [r]) ++ B := by simpa using hA.symm
  rcases List.append_eq_append_iff.1 h1 with ⟨z, e1, e2⟩ | ⟨z, e1, e2⟩
  · have := congrArg List.length e2; simp at this; omega
  · rcases List.eq_nil_or_concat z with rfl | ⟨z, y, rfl⟩
    · simp at e2; have := congrArg List.length e2; omega
    · rw [List.concat_eq_append] at e1 e2
      have e3 : q = y := by
        have := congrArg List.reverse e1
        simp at this
        exact this.1
      subst e3
      exact ⟨z, by simpa using e2⟩
/-- ranges lie apart -/
theorem nx_apart {R : List Rec} (h : AllOk P ops m n0 sl0 h0 ms R) {q r : Rec} {B C : List Rec} (hq : Suf q C R) (hr : Suf r B R) (hlt : C.length < B.length) : q.nx + q.n ≤ r.nx := by
  obtain ⟨A, rfl⟩ := hr
  obtain ⟨hr1, hB⟩ := allOk_suf h ⟨A, rfl⟩
  have hqB : Suf q C B := suf_in hq ⟨A, rfl⟩ hlt
  rw [hr1.2.2.1]
  exact (nx_le hB).2 hqB |>.2
theorem idR_spec : ∀ {R : List Rec} {x : Nat}, idR n0 S R x ↔ x < n0 ∨ ∃ q C, Suf q C R ∧ S C.length = true ∧ q.nx ≤ x ∧ x < q.nx + q.n
  | [], x => by
    constructor
    · exact .inl
    · rintro (h | ⟨q, C, h, _⟩)
      · exact h
      · have := h.lt; simp at this
  | r :: rs, x => by
    unfold idR
    rw [idR_spec]
    constructor
    · rintro (h | h | ⟨q, C, h1, h2⟩)
      · exact .inr ⟨r, rs, .head r rs, h⟩
      · exact .inl h
      · exact .inr ⟨q, C, h1.cons, h2⟩
    · rintro (h | ⟨q, C, ⟨A, hA⟩, h2⟩)
      · exact .inr (.inl h)
      · cases A with
        | nil => injection hA with e1 e2; subst e1 e2; exact .inl h2
        | cons _ A => injection hA with _ e2; exact .inr (.inr ⟨q, C, ⟨A, e2⟩, h2⟩)
theorem rows_mem : ∀ {R : List Rec} {q C}, Suf q C R → (C.length, q.t ++ keysN q.d, keysN q.d) ∈ rowsR R
  | [], q, C, h => by have := h.lt; simp at this
  | r :: rs, q, C, ⟨A, hA⟩ => by
    cases A with
    | nil => injection hA with e1 e2; subst e1 e2; simp [rowsR]
    | cons _ A => injection hA with _ e2; exact List.mem_cons_of_mem _ (rows_mem ⟨A, e2⟩)
theorem suf_trans {R B C : List Rec} {q r : Rec} (h1 : Suf q C B) (h2 : Suf r B R) : Suf q C R := by
  obtain ⟨A, rfl⟩ := h1
  obtain ⟨A2, rfl⟩ := h2
  exact ⟨A2 ++ r :: A, by simp⟩
end
end Go.Proofs.Ytfonmnodjmeigaa.Av
