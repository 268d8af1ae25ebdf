/- tree: ops on trees and on lists; sizes: plain. No program is in sight. No conditions. -/
import Derived.Test.YtbaedepmogkkeaaGreatTree2
namespace Go.Proofs.YtbaedepmogkkeaaGreat.Tre
open Go
set_option linter.unusedVariables false
set_option linter.unusedSimpArgs false

/-- an op: its kind, its key, its value -/
abbrev OpP := Nat × Key × Key
def stepL (o : OpP) (l : List Pr) : List Pr := if o.1 = 1 then putL o.2.1 o.2.2 l else if o.1 = 2 then delL o.2.1 l else if o.1 = 3 then dropL o.2.1 l else l
def applyL : List OpP → List Pr → List Pr
  | [], l => l
  | o :: os, l => applyL os (stepL o l)
namespace Tr
def step (o : OpP) (t : Tr) : Tr := if o.1 = 1 then put o.2.1 o.2.2 t else if o.1 = 2 then del o.2.1 t else if o.1 = 3 then drop o.2.1 t else t
def apply : List OpP → Tr → Tr
  | [], t => t
  | o :: os, t => apply os (step o t)
/-- in order, and balanced -/
structure Good (t : Tr) : Prop where
  srt : Srt t.toL
  bal : t.Bal
theorem good_nil : Good nil := ⟨List.Pairwise.nil, trivial⟩
theorem Good.put {t : Tr} (h : Good t) (k v : Key) : Good (t.put k v) ∧ (t.put k v).toL = putL k v t.toL := by
  have e := put_toL (key := k) (val := v) h.srt
  exact ⟨⟨by rw [e]; exact put_srt h.srt, (put_bal h.bal).1⟩, e⟩
theorem Good.del {t : Tr} (h : Good t) (k : Key) : Good (t.del k) ∧ (t.del k).toL = delL k t.toL := by
  have e := del_toL (key := k) h.srt
  exact ⟨⟨by rw [e]; exact del_srt h.srt, del_bal h.bal⟩, e⟩
theorem Good.drop {t : Tr} (h : Good t) (k : Key) : Good (t.drop k) ∧ (t.drop k).toL = dropL k t.toL := by
  have e := drop_toL (p := k) h.srt
  exact ⟨⟨by rw [e]; exact drop_srt h.srt, drop_bal h.bal⟩, e⟩
theorem Good.step {t : Tr} (h : Good t) (o : OpP) : Good (t.step o) ∧ (t.step o).toL = stepL o t.toL := by
  unfold Tr.step stepL
  split
  · exact h.put _ _
  · split
    · exact h.del _
    · split
      · exact h.drop _
      · exact ⟨h, rfl⟩
theorem Good.apply : ∀ (os : List OpP) {t : Tr}, Good t → Good (t.apply os) ∧ (t.apply os).toL = applyL os t.toL
  | [], t, h => ⟨h, rfl⟩
  | o :: os, t, h => by
    obtain ⟨h1, h2⟩ := h.step o
    obtain ⟨h3, h4⟩ := Good.apply os h1
    exact ⟨h3, by rw [h2] at h4; exact h4⟩
theorem apply_app (os ps : List OpP) : ∀ t : Tr, t.apply (os ++ ps) = (t.apply os).apply ps := by
  induction os with
  | nil => intro t; rfl
  | cons o os ih => intro t; exact ih _
end Tr
theorem applyL_app (os ps : List OpP) : ∀ l, applyL (os ++ ps) l = applyL ps (applyL os l) := by
  induction os with
  | nil => intro t; rfl
  | cons o os ih => intro t; exact ih _
/-! ### sizes -/
theorem putL_len (k v : Key) : ∀ l : List Pr, (putL k v l).length ≤ l.length + 1 ∧ bytesL (putL k v l) ≤ bytesL l + 4 + k.length + v.length
  | [] => by simp [putL, bytesL]
  | (a, b) :: l => by
    have ih := putL_len k v l
    unfold putL
    split
    · simp only [List.length_cons, bytesL]; omega
    · split
      · rename_i e; subst e; simp only [List.length_cons, bytesL]; omega
      · simp only [List.length_cons, bytesL]; omega
theorem filter_len (f : Pr → Bool) : ∀ l : List Pr, (l.filter f).length ≤ l.length ∧ bytesL (l.filter f) ≤ bytesL l
  | [] => by simp [bytesL]
  | (a, b) :: l => by
    have ih := filter_len f l
    simp only [List.filter_cons]
    split
    · simp only [List.length_cons, bytesL]; omega
    · simp only [List.length_cons, bytesL]; omega
theorem stepL_len (o : OpP) (l : List Pr) : (stepL o l).length ≤ l.length + 1 ∧ bytesL (stepL o l) ≤ bytesL l + 4 + o.2.1.length + o.2.2.length := by
  unfold stepL
  split
  · exact putL_len _ _ l
  · split
    · have := filter_len (fun p => p.1 != o.2.1) l; unfold delL; omega
    · split
      · have := filter_len (fun q => !begins o.2.1 q.1) l; unfold dropL; omega
      · omega
/-- ops whose texts are not too long -/
def OpsIn (a b : Nat) (os : List OpP) : Prop := ∀ o ∈ os, o.2.1.length ≤ a ∧ o.2.2.length ≤ b
theorem applyL_len {a b : Nat} : ∀ (os : List OpP) (l : List Pr), OpsIn a b os → (applyL os l).length ≤ l.length + os.length ∧ bytesL (applyL os l) ≤ bytesL l + (4 + a + b) * os.length
  | [], l, _ => by simp [applyL]
  | o :: os, l, h => by
    have h0 := h o (by simp)
    have ih := applyL_len os (stepL o l) (fun x hx => h x (List.mem_cons_of_mem _ hx))
    have hs := stepL_len o l
    simp only [applyL, List.length_cons, Nat.mul_succ]
    omega
namespace Tr
/-- neither too many keys nor too many bytes -/
def Sm (t : Tr) : Prop := t.cn ≤ 1000000 ∧ t.wt ≤ 1000000000
theorem cn_join {l r : Tr} {k v : Key} : (join l k v r).cn = 1 + l.cn + r.cn := by
  rw [cn_len, cn_len, cn_len, join_toL _ _ _ _ _ (Nat.le_refl _)]; simp; omega
theorem wt_join {l r : Tr} {k v : Key} : (join l k v r).wt = 4 + (k.length : Int) + (v.length : Int) + l.wt + r.wt := by
  rw [wt_len, wt_len, wt_len, join_toL _ _ _ _ _ (Nat.le_refl _), bytesL_app]; simp [bytesL]; omega
theorem cn_level {t : Tr} : (level t).cn = t.cn := by rw [cn_len, cn_len, level_toL]
theorem wt_level {t : Tr} : (level t).wt = t.wt := by rw [wt_len, wt_len, level_toL]
theorem first_sizes {t : Tr} (h : t ≠ nil) : (first t).2.2.cn = t.cn - 1 ∧ (first t).2.2.wt + (4 + ((first t).1.length : Int) + ((first t).2.1.length : Int)) = t.wt := by
  have e := first_toL t h
  rw [cn_len, cn_len, wt_len, wt_len, ← e]
  simp [bytesL]; omega
theorem split_sizes {key : Key} : ∀ {t : Tr}, (split key t).1.cn + (split key t).2.cn = t.cn ∧ (split key t).1.wt + (split key t).2.wt = t.wt
  | nil => ⟨rfl, rfl⟩
  | node l k v r => by
    unfold split
    split
    · obtain ⟨h1, h2⟩ := split_sizes (key := key) (t := r)
      simp only [cn_join, wt_join, cn, wt]; omega
    · obtain ⟨h1, h2⟩ := split_sizes (key := key) (t := l)
      simp only [cn_join, wt_join, cn, wt]; omega
theorem put_sizes {k v : Key} : ∀ {t : Tr}, (put k v t).cn ≤ t.cn + 1 ∧ (put k v t).wt ≤ t.wt + 4 + (k.length : Int) + (v.length : Int)
  | nil => by simp [put, cn, wt]
  | node l a b r => by
    have c1 := cn_pos l
    have c2 := cn_pos r
    unfold put
    split
    · obtain ⟨h1, h2⟩ := put_sizes (k := k) (v := v) (t := l)
      simp only [cn_level, wt_level, cn, wt]; omega
    · split
      · obtain ⟨h1, h2⟩ := put_sizes (k := k) (v := v) (t := r)
        simp only [cn_level, wt_level, cn, wt]; omega
      · rename_i h1 h2
        have e : k = a := lt_tri (by simpa using h1) (by simpa using h2)
        subst e
        simp only [cn, wt]; omega
theorem cn_both {l r : Tr} : (both l r).cn = l.cn + r.cn := by rw [cn_len, cn_len, cn_len, both_toL]; simp
theorem wt_both {l r : Tr} : (both l r).wt = l.wt + r.wt := by rw [wt_len, wt_len, wt_len, both_toL, bytesL_app]; simp
/-- the same pairs, told by two trees -/
def same (a b : Tr) : Bool := decide (a.toL = b.toL)
theorem same_iff {a b : Tr} (ha : Good a) (hb : Good b) : a.toL = b.toL ↔ a.cn = b.cn ∧ a.wt = b.wt ∧ ∀ q ∈ a.toL, get q.1 b = some q.2 := by
  constructor
  · intro h
    refine ⟨by rw [cn_len, cn_len, h], by rw [wt_len, wt_len, h], fun q hq => ?_⟩
    rw [get_toL hb.srt]
    exact getL_of_mem hb.srt (by rw [← h]; exact hq)
  · rintro ⟨h1, _, h3⟩
    refine srt_ext ha.srt hb.srt (by rw [cn_len, cn_len] at h1; omega) fun q hq => ?_
    have := h3 q hq
    rw [get_toL hb.srt] at this
    exact getL_mem this
end Tr
end Go.Proofs.YtbaedepmogkkeaaGreat.Tre
