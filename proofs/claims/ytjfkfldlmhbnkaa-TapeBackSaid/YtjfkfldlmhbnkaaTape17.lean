/- tape: texts laid one behind the other, and what is scanned of them, in plain bytes. No conditions but that numbers have 64 bits. -/
import Derived.Test.YtjfkfldlmhbnkaaTape16
namespace Go.Proofs.Ytjfkfldlmhbnkaa.Av
open Go Go.RowKit
set_option linter.unusedVariables false
set_option linter.unusedSimpArgs false
set_option maxRecDepth 100000

/-- texts of 1 to 200 bytes -/
def GoodL (l : List (List UInt8)) : Prop := ∀ t ∈ l, t ≠ [] ∧ t.length ≤ 200
def lenL : List (List UInt8) → Nat
  | [] => 0
  | t :: l => szT t.length + lenL l
def laidL (g : Nat) : Nat → List (List UInt8) → List (List UInt8)
  | _, [] => []
  | a, t :: l => layT t g (a : Int) ++ laidL g (a + szT t.length) l
theorem GoodL.tail {t : List UInt8} {l : List (List UInt8)} (h : GoodL (t :: l)) : GoodL l := fun x hx => h x (List.mem_cons_of_mem _ hx)
theorem GoodL.take {l : List (List UInt8)} (h : GoodL l) (n : Nat) : GoodL (l.take n) := fun x hx => h x (List.mem_of_mem_take hx)
theorem szT_good {t : List UInt8} (h : t ≠ [] ∧ t.length ≤ 200) : szT t.length = (t.length + 49) / 48 ∧ 1 ≤ szT t.length ∧ szT t.length ≤ 5 := by
  have hpos : 0 < t.length := List.length_pos_iff.2 h.1
  unfold szT
  rw [if_neg (by omega)]
  omega
theorem layT_len {t : List UInt8} {g : Nat} {a : Int} (h : t ≠ [] ∧ t.length ≤ 200) : (layT t g a).length = szT t.length := by
  unfold layT
  rw [List.length_map, List.length_range, npc_row h.1 (by omega)]
theorem layT_at {t : List UInt8} {g : Nat} {a : Int} (h : t ≠ [] ∧ t.length ≤ 200) {i : Nat} (hi : i < szT t.length) : (layT t g a)[i]? = some (secT t g a i) := by
  unfold layT
  rw [npc_row h.1 (by omega)]
  simp [hi]
theorem lenL_app (l m : List (List UInt8)) : lenL (l ++ m) = lenL l + lenL m := by
  induction l with
  | nil => simp [lenL]
  | cons t l ih => simp only [List.cons_append, lenL, ih]; omega
theorem laidL_app (g : Nat) (l m : List (List UInt8)) : ∀ a, laidL g a (l ++ m) = laidL g a l ++ laidL g (a + lenL l) m := by
  induction l with
  | nil => intro a; simp [laidL, lenL]
  | cons t l ih => intro a; simp only [List.cons_append, laidL, lenL, ih, List.append_assoc]; rw [Nat.add_assoc]
theorem laidL_len (g : Nat) {l : List (List UInt8)} (h : GoodL l) : ∀ a, (laidL g a l).length = lenL l := by
  induction l with
  | nil => intro a; rfl
  | cons t l ih => intro a; simp only [laidL, lenL, List.length_append]; rw [layT_len (h t (by simp)), ih h.tail]
theorem lenL_le {l : List (List UInt8)} (h : GoodL l) : l.length ≤ lenL l ∧ lenL l ≤ 5 * l.length := by
  induction l with
  | nil => simp [lenL]
  | cons t l ih =>
    have := ih h.tail
    have := szT_good (h t (by simp))
    simp only [lenL, List.length_cons]; omega
theorem lenL_take (l : List (List UInt8)) {i : Nat} (hi : i < l.length) : lenL (l.take (i + 1)) = lenL (l.take i) + szT (l[i]).length := by
  rw [List.take_add_one, List.getElem?_eq_getElem hi, lenL_app]; rfl
theorem laidL_take (g : Nat) (l : List (List UInt8)) {i : Nat} (hi : i < l.length) : laidL g 0 (l.take (i + 1)) = laidL g 0 (l.take i) ++ layT l[i] g ((lenL (l.take i) : Nat) : Int) := by
  rw [List.take_add_one, List.getElem?_eq_getElem hi, laidL_app, Nat.zero_add]
  show _ ++ laidL g _ [l[i]] = _
  simp [laidL]
theorem lenL_mono (l : List (List UInt8)) : ∀ {i : Nat}, lenL (l.take i) ≤ lenL l := by
  intro i
  have := lenL_app (l.take i) (l.drop i)
  rw [List.take_append_drop] at this
  omega
/-- the length that a text's first payload tells -/
theorem tell_first {t : List UInt8} (h : t ≠ [] ∧ t.length ≤ 200) : Quill.tell ((padR (pc (Quill.rowB t) 0)).take 2) = t.length := by
  have hl := rowB_len t
  have hpc : (pc (Quill.rowB t) 0).length = min 48 (t.length + 2) := by unfold pc; rw [List.length_take, List.length_drop, hl]; omega
  rw [pad_first (by omega)]
  unfold pc
  rw [List.take_take, Nat.mul_zero, List.drop_zero, show min 2 48 = 2 from rfl]
  unfold Quill.rowB
  rw [List.take_left' (Quill.numB_length 2 t.length), Quill.tell_numB]
  omega
/-- a text one of whose sectors does not stand there is none -/
theorem textO_broken {M : List (List UInt8)} {t : List UInt8} {g a i0 : Nat} (ht : t ≠ [] ∧ t.length ≤ 200) (h : ∀ i, i < szT t.length → OkM g ((a : Int) + (i : Int))) (hi0 : i0 < szT t.length) (hs : ∀ i, i < i0 → M[a + i]? = some (secT t g (a : Int) i)) (hn : payO M g ((a : Int) + (i0 : Int)) = none) : textO M g (a : Int) = none := by
  by_cases h0 : i0 = 0
  · subst h0
    rw [Int.natCast_zero, Int.add_zero] at hn
    unfold textO; rw [hn]
  · have hp := payO_sec (L := M) (h 0 (by omega)) (by rw [show ((a : Int) + ((0 : Nat) : Int)).toNat = a + 0 by omega]; exact hs 0 (by omega))
    rw [Int.natCast_zero, Int.add_zero] at hp
    unfold textO
    rw [hp]
    simp only
    rw [tell_first ht, if_neg (by omega), if_pos]
    have hle := paysO_len M g (szT t.length) (a : Int)
    apply Classical.byContradiction
    intro hc
    have := paysO_at M g (szT t.length) (a : Int) i0 (by omega)
    rw [hn, List.getElem?_eq_getElem (by omega)] at this
    cases this
/-- texts that stand one behind the other, and behind them none, are scanned -/
theorem scanO_laid {M : List (List UInt8)} {g : Nat} (hg : 1 ≤ g ∧ g ≤ 1099511627776) : ∀ (l : List (List UInt8)) (a f : Nat), GoodL l → a + lenL l ≤ 1000000 → (∀ i, i < lenL l → M[a + i]? = (laidL g a l)[i]?) → textO M g ((a + lenL l : Nat) : Int) = none → l.length < f → scanO M g f (a : Int) = (l, ((a + lenL l : Nat) : Int))
  | [], a, f, _, _, _, hn, hf => by
    obtain ⟨f, rfl⟩ : ∃ f', f = f' + 1 := ⟨f - 1, by omega⟩
    simp only [lenL, Nat.add_zero] at hn ⊢
    unfold scanO; rw [hn]
  | t :: l, a, f, hgd, hle, hs, hn, hf => by
    obtain ⟨f, rfl⟩ : ∃ f', f = f' + 1 := ⟨f - 1, by omega⟩
    have ht := hgd t (by simp)
    have hsz := szT_good ht
    have hl := layT_len (g := g) (a := (a : Int)) ht
    simp only [lenL] at hle hs hn
    have h1 : textO M g (a : Int) = some (t, szT t.length) := by
      refine textO_laid ht.1 (by omega) fun i hi => ⟨by unfold OkM; omega, ?_⟩
      rw [show ((a : Int) + (i : Int)).toNat = a + i by omega, hs i (by omega)]
      simp only [laidL]
      rw [List.getElem?_append_left (by omega), layT_at ht hi]
    have ih := scanO_laid (M := M) hg l (a + szT t.length) f hgd.tail (by omega) (fun i hi => by
      have := hs (szT t.length + i) (by omega)
      simp only [laidL] at this
      rw [List.getElem?_append_right (by omega), hl, Nat.add_sub_cancel_left] at this
      rw [Nat.add_assoc]; exact this) (by rw [Nat.add_assoc]; exact hn) (by simpa using hf)
    unfold scanO
    rw [h1]
    simp only
    rw [show (a : Int) + ((szT t.length : Nat) : Int) = ((a + szT t.length : Nat) : Int) by omega, ih]
    simp only [lenL, Nat.add_assoc]
/-- how many texts stand whole in so many sectors -/
def fitN : List (List UInt8) → Nat → Nat
  | [], _ => 0
  | t :: l, n => if szT t.length ≤ n then 1 + fitN l (n - szT t.length) else 0
theorem fitN_ok : ∀ (l : List (List UInt8)) (n : Nat), fitN l n ≤ l.length ∧ lenL (l.take (fitN l n)) ≤ n ∧ (fitN l n = l.length ∨ ∃ h : fitN l n < l.length, n < lenL (l.take (fitN l n)) + szT (l[fitN l n]).length)
  | [], n => ⟨Nat.le_refl _, by simp [fitN, lenL], .inl rfl⟩
  | t :: l, n => by
    generalize hj : fitN (t :: l) n = j
    unfold fitN at hj
    by_cases h : szT t.length ≤ n
    · obtain ⟨h1, h2, h3⟩ := fitN_ok l (n - szT t.length)
      rw [if_pos h] at hj
      subst hj
      refine ⟨by simp; omega, by rw [Nat.add_comm 1, List.take_succ_cons]; simp only [lenL]; omega, ?_⟩
      rcases h3 with h3 | ⟨h3, h4⟩
      · left; simp; omega
      · right
        refine ⟨by simp; omega, ?_⟩
        rw [show (t :: l)[1 + fitN l (n - szT t.length)]'(by simp; omega) = l[fitN l (n - szT t.length)] by simp [Nat.add_comm 1]]
        rw [Nat.add_comm 1, List.take_succ_cons]
        simp only [lenL]; omega
    · rw [if_neg h] at hj
      subst hj
      refine ⟨by simp, by simp [lenL], .inr ⟨by simp, ?_⟩⟩
      simp [lenL]; omega
theorem payO_out {M : List (List UInt8)} {g : Nat} {a : Int} (h : M.length ≤ a.toNat) : payO M g a = none := by
  unfold payO
  rw [List.getElem?_eq_none h]
theorem okM_of {g a : Nat} (hg : 1 ≤ g ∧ g ≤ 1099511627776) (h : a ≤ 1000000) : OkM g (a : Int) := by unfold OkM; omega
/-- a text of laid texts: where it begins, its sectors stand -/
theorem laidL_sec {g : Nat} {l : List (List UInt8)} (h : GoodL l) {j i : Nat} (hj : j < l.length) (hi : i < szT (l[j]).length) : (laidL g 0 l)[lenL (l.take j) + i]? = some (secT l[j] g ((lenL (l.take j) : Nat) : Int) i) := by
  have e : l = l.take (j + 1) ++ l.drop (j + 1) := (List.take_append_drop _ _).symm
  have hl : (laidL g 0 (l.take j)).length = lenL (l.take j) := laidL_len g (h.take j) 0
  have hk : (laidL g 0 (l.take (j + 1))).length = lenL (l.take (j + 1)) := laidL_len g (h.take _) 0
  have hm := lenL_take l hj
  have ht := h l[j] (List.getElem_mem hj)
  have e2 : laidL g 0 l = laidL g 0 (l.take (j + 1)) ++ laidL g (0 + lenL (l.take (j + 1))) (l.drop (j + 1)) := by
    rw [← laidL_app, List.take_append_drop]
  rw [e2, List.getElem?_append_left (by omega), laidL_take g l hj, List.getElem?_append_right (by omega), hl, Nat.add_sub_cancel_left, layT_at ht hi]
/-- sectors that stand as they were laid, as far as texts reach, and behind them a text that is broken -/
theorem scan_cut {g n : Nat} {l : List (List UInt8)} (hg : 1 ≤ g ∧ g ≤ 1099511627776) (h : GoodL l) (hl : l.length ≤ 12) (hn : n ≤ lenL l) :
    ∀ f, fitN l n < f → scanO ((laidL g 0 l).take n) g f 0 = (l.take (fitN l n), ((lenL (l.take (fitN l n)) : Nat) : Int)) := by
  intro f hf
  obtain ⟨h1, h2, h3⟩ := fitN_ok l n
  generalize fitN l n = j at h1 h2 h3 hf
  have hle := lenL_le h
  have hk := laidL_len g h 0
  have hj := lenL_le (h.take j)
  have := scanO_laid (M := (laidL g 0 l).take n) hg (l.take j) 0 f (h.take j) (by have := lenL_mono l (i := j); omega) (fun i hi => by
    have e2 : laidL g 0 l = laidL g 0 (l.take j) ++ laidL g (0 + lenL (l.take j)) (l.drop j) := by
      rw [← laidL_app, List.take_append_drop]
    have hk2 := laidL_len g (h.take j) 0
    rw [Nat.zero_add, List.getElem?_take_of_lt (by omega), e2, List.getElem?_append_left (by omega)]) (by
    rw [Nat.zero_add]
    have hlen : ((laidL g 0 l).take n).length = n := by rw [List.length_take]; omega
    rcases h3 with h3 | ⟨h3, h4⟩
    · have e : lenL (l.take j) = lenL l := by rw [h3, List.take_length]
      have hp : payO ((laidL g 0 l).take n) g ((lenL (l.take j) : Nat) : Int) = none := payO_out (by omega)
      unfold textO; rw [hp]
    · have ht := h l[j] (List.getElem_mem h3)
      have hsz := szT_good ht
      have hm := lenL_mono l (i := j + 1)
      have hm2 := lenL_take l h3
      refine textO_broken ht (i0 := n - lenL (l.take j)) (fun i hi => by rw [← Int.natCast_add]; exact okM_of hg (by omega)) (by omega) (fun i hi => ?_) (payO_out (by omega))
      rw [List.getElem?_take_of_lt (by omega)]
      exact laidL_sec h h3 (by omega)) (by rw [List.length_take]; omega)
  rw [Nat.zero_add] at this
  exact this
/-- in another generation there are none -/
theorem scan_gen {g g' : Nat} {l : List (List UInt8)} (hg : 1 ≤ g ∧ g ≤ 1099511627776) (h : GoodL l) (hne : g ≠ g') : ∀ f, scanO (laidL g 0 l) g' f 0 = ([], 0) := by
  intro f
  cases f with
  | zero => rfl
  | succ f =>
    have hp : payO (laidL g 0 l) g' 0 = none := by
      cases l with
      | nil => exact payO_out (by simp [laidL])
      | cons t l =>
        have ht := h t (by simp)
        have hsz := szT_good ht
        have := payO_gen (L := laidL g 0 (t :: l)) (t := t) (at_ := 0) (i := 0) (okM_of (a := 0) hg (by omega)) (by
          show (laidL g 0 (t :: l))[0]? = _
          have := layT_at (g := g) (a := ((0 : Nat) : Int)) ht (i := 0) (by omega)
          have hl := layT_len (g := g) (a := ((0 : Nat) : Int)) ht
          simp only [laidL]
          rw [List.getElem?_append_left (by omega)]
          exact this) hne
        exact this
    unfold scanO textO
    rw [hp]
end Go.Proofs.Ytjfkfldlmhbnkaa.Av
