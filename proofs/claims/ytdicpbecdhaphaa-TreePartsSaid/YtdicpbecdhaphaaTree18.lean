/- tree: the law TreeDoes: what is walked holds of any ops. No conditions. -/
import Derived.Test.YtdicpbecdhaphaaTree17
namespace Go.Proofs.Ytdicpbecdhaphaa.Av
open Go Go.RowKit Tre
set_option linter.unusedVariables false
set_option linter.unusedSimpArgs false
set_option maxRecDepth 100000
set_option maxHeartbeats 2000000

theorem apply_snoc : ∀ (l : List OpP) (o : OpP) (t : Tr), Tr.apply (l ++ [o]) t = (Tr.apply l t).step o
  | [], o, t => rfl
  | a :: l, o, t => apply_snoc l o (t.step a)
theorem applyL_snoc : ∀ (l : List OpP) (o : OpP) (r : List Pr), applyL (l ++ [o]) r = stepL o (applyL l r)
  | [], o, r => rfl
  | a :: l, o, r => applyL_snoc l o (stepL a r)
theorem take_snoc {os : List OpP} {i : Nat} (h : i < os.length) : os.take (i + 1) = os.take i ++ [os[i]] := by
  rw [List.take_add_one, List.getElem?_eq_getElem h]; rfl
theorem key_le : ∀ {l : List Pr} {x : Pr}, x ∈ l → x.1.length + x.2.length ≤ bytesL l
  | [], x, h => by cases h
  | (a, b) :: l, x, h => by
    simp only [bytesL]
    rcases List.mem_cons.1 h with rfl | h
    · show a.length + b.length ≤ _; omega
    · have := key_le h; omega
/-- the tree after some ops -/
structure Aft (os : List OpP) (i : Nat) (t : Tr) : Prop where
  good : Tr.Good t
  list : t.toL = applyL (os.take i) []
  ok : OpsOk t (os.drop i)
theorem aft (os : List OpP) (hn : os.length ≤ 50) (hk : ∀ o ∈ os, o.2.1.length ≤ 150 ∧ o.2.2.length ≤ 1000) : ∀ i, i ≤ os.length → Aft os i (Tr.apply (os.take i) .nil)
  | 0, _ => ⟨Tr.good_nil, rfl, ⟨by show (0 : Int) + _ ≤ _; rw [List.drop_zero]; omega, fun o ho => by have := hk o (by simpa using ho); omega, by show (0 : Int) + _ ≤ _; rw [List.drop_zero]; omega⟩⟩
  | i + 1, h => by
    have ih := aft os hn hk i (by omega)
    rw [take_snoc (by omega), apply_snoc]
    obtain ⟨g, e⟩ := ih.good.step os[i]
    refine ⟨g, by rw [e, ih.list, take_snoc (by omega), applyL_snoc], ?_⟩
    have := ih.ok
    rw [List.drop_eq_getElem_cons (by omega)] at this
    exact this.step ih.good
theorem Aft.sz {os : List OpP} {i : Nat} {t : Tr} (h : Aft os i t) : t.toL.length ≤ 100000000 ∧ bytesL t.toL ≤ 300000000 := by
  obtain ⟨h1, _, h3⟩ := h.ok
  rw [Tr.cn_len] at h1
  rw [Tr.wt_len] at h3
  omega
theorem applyL_len : ∀ (os : List OpP) (l : List Pr), (applyL os l).length ≤ l.length + os.length
  | [], l => by simp [applyL]
  | o :: os, l => by
    have h1 := applyL_len os (stepL o l)
    have h2 := stepL_len o l
    simp only [applyL, List.length_cons]
    omega
theorem Aft.len {os : List OpP} {i : Nat} {t : Tr} (h : Aft os i t) (hi : i ≤ 50) : t.toL.length ≤ 50 := by
  rw [h.list]
  have := applyL_len (os.take i) []
  have := List.length_take_le i os
  simp only [List.length_nil] at *
  omega
theorem Aft.key {os : List OpP} {i : Nat} {t : Tr} (h : Aft os i t) : ∀ x ∈ t.toL, x.1.length ≤ 300000000 ∧ x.2.length ≤ 300000000 := fun x hx => by
  have := key_le hx
  have := h.sz.2
  omega
theorem does_ok (os : List OpP) (hl : os.length ≤ 9223372036854775807) : SP 3 [.vs os.length (opC os)] (B true) := by
  by_cases h : Over13 os
  · exact does_over os (over13_yes hl h) awake14_ok
  have hn : os.length ≤ 50 := by apply Classical.byContradiction; intro e; exact h (.inl (by omega))
  have hk : ∀ o ∈ os, o.2.1.length ≤ 150 ∧ o.2.2.length ≤ 1000 := fun o ho => by
    constructor <;> (apply Classical.byContradiction; intro e; exact h (.inr ⟨o, ho, by omega⟩))
  have A := aft os hn hk
  have hstep : ∀ i (h : i < os.length), Tr.apply (os.take (i + 1)) .nil = (Tr.apply (os.take i) .nil).step os[i] := fun i h => by rw [take_snoc h, apply_snoc]
  have hstepL : ∀ i (h : i < os.length), applyL (os.take (i + 1)) [] = stepL os[i] (applyL (os.take i) []) := fun i h => by rw [take_snoc h, applyL_snoc]
  have hz : ∀ i (h : i < os.length), (Tr.apply (os.take i) .nil).cn ≤ 100000000 ∧ (Tr.apply (os.take i) .nil).wt ≤ 300000000 ∧ (os[i]).2.1.length ≤ 150 ∧ (os[i]).2.2.length ≤ 1000 := fun i h => by
    have a := A i (by omega)
    have s := a.sz
    rw [Tr.cn_len, Tr.wt_len]
    have := hk _ (List.getElem_mem h)
    omega
  refine does_walk os (fun i => Tr.apply (os.take i) .nil) (fun i => (applyL (os.take i) []).length) (fun i => prC (applyL (os.take i) [])) hn rfl rfl rfl (over13_no h) awake14_ok ?_ ?_ ?_ ?_ ?_ ?_ (own13_ok os (by omega)) (Tr.apply os .nil) ?_ ?_
  · intro i hi h1
    have z := hz i hi
    have e : Tr.apply (os.take (i + 1)) .nil = Tr.put os[i].2.1 os[i].2.2 (Tr.apply (os.take i) .nil) := by rw [hstep i hi, Tr.step, if_pos h1]
    show SP _ _ (trA (Tr.apply (os.take (i + 1)) .nil))
    rw [e]
    exact tput_ok ⟨by omega, by omega⟩
  · intro i hi h1
    have z := hz i hi
    have e : Tr.apply (os.take (i + 1)) .nil = Tr.del os[i].2.1 (Tr.apply (os.take i) .nil) := by rw [hstep i hi, Tr.step, if_neg (by omega), if_pos h1]
    show SP _ _ (trA (Tr.apply (os.take (i + 1)) .nil))
    rw [e]
    exact tdel_ok ⟨by omega, by omega⟩ (A i (by omega)).good.srt
  · intro i hi h1
    have z := hz i hi
    have e : Tr.apply (os.take (i + 1)) .nil = Tr.drop os[i].2.1 (Tr.apply (os.take i) .nil) := by rw [hstep i hi, Tr.step, if_neg (by omega), if_neg (by omega), if_pos h1]
    show SP _ _ (trA (Tr.apply (os.take (i + 1)) .nil))
    rw [e]
    exact tdrop_ok ⟨by omega, by omega⟩ (by omega)
  · intro i hi h1 h2 h3
    show Tr.apply (os.take (i + 1)) .nil = _
    rw [hstep i hi, Tr.step, if_neg h1, if_neg h2, if_neg h3]
  · intro i hi
    have a := A i (by omega)
    have b := a.len (by omega)
    have c := a.key
    rw [a.list] at b c
    have z := hz i hi
    exact papply_ok _ [os[i]] ⟨by simp only [List.length_cons, List.length_nil]; omega, fun p hp => by have := c p hp; omega⟩ (fun o ho => by obtain rfl : o = os[i] := (by simpa using ho); omega) _ (hstepL i hi).symm
  · intro i hi
    have a := A i hi
    have b := a.len (by omega)
    have hs := a.sz
    have c := like_ok (applyL (os.take i) []) a.good (by omega) (fun x hx => by have := a.key x hx; omega) (by rw [← a.list]; omega) (by rw [← a.list]; omega)
    rwa [decide_eq_true a.list] at c
  · exact zw (tapply_ok Tr.good_nil ⟨by show (0 : Int) + _ ≤ _; omega, fun o ho => by have := hk o ho; omega, by show (0 : Int) + _ ≤ _; omega⟩ _ rfl)
  · have a := A os.length (Nat.le_refl _)
    rw [List.take_length] at a
    have b := a.len (by omega)
    show SP _ [_, trA (Tr.apply (os.take os.length) .nil)] _
    rw [List.take_length]
    have c := same_ok a.good a.good (by omega) (fun x hx => by have := a.key x hx; omega)
    rwa [decide_eq_true rfl] at c
end Go.Proofs.Ytdicpbecdhaphaa.Av
