/- lru: lists of keys and values (of LruK): what their changes keep. Plain. No conditions. -/
import Derived.Test.YtdicpbecdhaphaaLruUK
import Derived.Test.YtdicpbecdhaphaaPre
namespace Go.Proofs.Ytdicpbecdhaphaa.Av.LruK
open Go Go.RowKit Pre
set_option linter.unusedVariables false
set_option linter.unusedSimpArgs false
abbrev Xs := List (List UInt8 × VT)
def dropX (xs : Xs) (p : List UInt8) : Xs := xs.filter fun x => !begins p x.1
abbrev NdX (xs : Xs) : Prop := (xs.map (·.1)).Nodup
/-- no key is long -/
def KB (xs : Xs) : Prop := ∀ x ∈ xs, x.1.length ≤ 1000
theorem has_iff {xs : Xs} {k : List UInt8} : has xs k = true ↔ k ∈ xs.map (·.1) := by
  unfold has
  rw [List.any_eq_true, List.mem_map]
  constructor
  · rintro ⟨x, h, e⟩; exact ⟨x, h, by simpa using e⟩
  · rintro ⟨x, h, e⟩; exact ⟨x, h, by simpa using e⟩
theorem wo_mem {xs : Xs} {k : List UInt8} {x : List UInt8 × VT} : x ∈ wo xs k ↔ x ∈ xs ∧ x.1 ≠ k := by
  unfold wo
  rw [List.mem_filter]
  simp
theorem wo_app (a b : Xs) (k : List UInt8) : wo (a ++ b) k = wo a k ++ wo b k := by unfold wo; rw [List.filter_append]
theorem wo_same {a : Xs} {k : List UInt8} (h : ∀ y ∈ a, y.1 ≠ k) : wo a k = a := by
  unfold wo
  rw [List.filter_eq_self]
  intro y hy
  have := h y hy
  simpa using this
theorem wo_cons (k : List UInt8) (v : VT) (b : Xs) : wo ((k, v) :: b) k = wo b k := by
  unfold wo
  rw [List.filter_cons_of_neg (by simp)]
theorem wo_mid {a b : Xs} {k : List UInt8} {v : VT} (ha : ∀ y ∈ a, y.1 ≠ k) (hb : ∀ y ∈ b, y.1 ≠ k) : wo (a ++ (k, v) :: b) k = a ++ b := by
  rw [wo_app, wo_same ha, wo_cons, wo_same hb]
theorem val_mid {a b : Xs} {k : List UInt8} {v : VT} (ha : ∀ y ∈ a, y.1 ≠ k) : val (a ++ (k, v) :: b) k = v := by
  have : (a ++ (k, v) :: b).find? (fun x => x.1 == k) = some (k, v) := by
    rw [List.find?_append, List.find?_eq_none.2 (fun y hy => by have := ha y hy; simpa using this)]
    simp
  unfold val
  rw [this]
theorem nd_split {a b : Xs} {k : List UInt8} {v : VT} (h : NdX (a ++ (k, v) :: b)) : (∀ y ∈ a, y.1 ≠ k) ∧ (∀ y ∈ b, y.1 ≠ k) := by
  unfold NdX at h
  rw [List.map_append, List.map_cons, List.nodup_append] at h
  obtain ⟨h1, h2, h3⟩ := h
  have h4 := List.nodup_cons.1 h2
  exact ⟨fun y hy e => h3 y.1 (List.mem_map_of_mem hy) k List.mem_cons_self e, fun y hy e => h4.1 (List.mem_map.2 ⟨y, hy, e⟩)⟩
/-- a key that is there: where -/
theorem has_split {xs : Xs} {k : List UInt8} (hn : NdX xs) (h : has xs k = true) : ∃ a b, xs = a ++ (k, val xs k) :: b ∧ wo xs k = a ++ b ∧ (∀ y ∈ a, y.1 ≠ k) ∧ (∀ y ∈ b, y.1 ≠ k) := by
  obtain ⟨a, b, e1, e2⟩ := split_x hn h
  have h3 := nd_split (v := val xs k) (e1 ▸ hn)
  exact ⟨a, b, e1, e2, h3.1, h3.2⟩
theorem not_has {xs : Xs} {k : List UInt8} (h : has xs k = false) : ∀ y ∈ xs, y.1 ≠ k := fun y hy e => by
  have : has xs k = true := has_iff.2 (List.mem_map.2 ⟨y, hy, e⟩)
  rw [h] at this; cases this
theorem nd_sub {xs ys : Xs} (h : List.Sublist ys xs) (hn : NdX xs) : NdX ys := List.Nodup.sublist (h.map _) hn
theorem wo_sub (xs : Xs) (k : List UInt8) : List.Sublist (wo xs k) xs := List.filter_sublist
theorem nd_wo {xs : Xs} {k : List UInt8} (h : NdX xs) : NdX (wo xs k) := nd_sub (wo_sub xs k) h
theorem nd_drop {xs : Xs} {p : List UInt8} (h : NdX xs) : NdX (dropX xs p) := nd_sub List.filter_sublist h
theorem nd_end {xs : Xs} {k : List UInt8} {v : VT} (h : NdX xs) : NdX (wo xs k ++ [(k, v)]) := by
  have h1 := nd_wo (k := k) h
  unfold NdX at h1 ⊢
  rw [List.map_append, List.nodup_append]
  refine ⟨h1, by simp, fun a ha b hb => ?_⟩
  obtain ⟨y, hy, rfl⟩ := List.mem_map.1 ha
  rw [List.map_cons, List.map_nil, List.mem_singleton] at hb
  subst hb
  exact (wo_mem.1 hy).2
theorem put_sub (most : Nat) (xs : Xs) (k : List UInt8) (v : VT) : List.Sublist (putX most xs k v) (wo xs k ++ [(k, v)]) := by
  unfold putX
  split
  · exact List.nil_sublist _
  · rename_i y ys e
    rw [e]
    split
    · exact List.Sublist.refl _
    · exact List.sublist_cons_self _ _
theorem nd_put {most : Nat} {xs : Xs} {k : List UInt8} {v : VT} (h : NdX xs) : NdX (putX most xs k v) := nd_sub (put_sub ..) (nd_end h)
theorem nd_get {xs : Xs} {k : List UInt8} (h : NdX xs) : NdX (getX xs k) := by
  unfold getX
  split
  · exact nd_end h
  · exact h
theorem kb_sub {xs ys : Xs} (h : List.Sublist ys xs) (hn : KB xs) : KB ys := fun x hx => hn x (h.subset hx)
theorem kb_wo {xs : Xs} {k : List UInt8} (h : KB xs) : KB (wo xs k) := kb_sub (wo_sub xs k) h
theorem kb_drop {xs : Xs} {p : List UInt8} (h : KB xs) : KB (dropX xs p) := kb_sub List.filter_sublist h
theorem kb_end {xs : Xs} {k : List UInt8} {v : VT} (hk : k.length ≤ 1000) (h : KB xs) : KB (wo xs k ++ [(k, v)]) := fun x hx => by
  rcases List.mem_append.1 hx with hx | hx
  · exact kb_wo h x hx
  · rw [List.mem_singleton] at hx; subst hx; exact hk
theorem kb_put {most : Nat} {xs : Xs} {k : List UInt8} {v : VT} (hk : k.length ≤ 1000) (h : KB xs) : KB (putX most xs k v) := kb_sub (put_sub ..) (kb_end hk h)
theorem kb_get {xs : Xs} {k : List UInt8} (hk : k.length ≤ 1000) (h : KB xs) : KB (getX xs k) := by
  unfold getX
  split
  · exact kb_end hk h
  · exact h
theorem len_wo (xs : Xs) (k : List UInt8) : (wo xs k).length ≤ xs.length := (wo_sub xs k).length_le
theorem len_drop (xs : Xs) (p : List UInt8) : (dropX xs p).length ≤ xs.length := List.length_filter_le _ _
theorem len_put {most : Nat} {xs : Xs} {k : List UInt8} {v : VT} (h : xs.length ≤ most) : (putX most xs k v).length ≤ most := by
  have h1 := len_wo xs k
  unfold putX
  split
  · exact Nat.zero_le _
  · rename_i y ys e
    have := congrArg List.length e
    simp only [List.length_append, List.length_cons, List.length_nil] at this
    split
    · rename_i h2; exact h2
    · omega
theorem len_get {xs : Xs} {k : List UInt8} (hn : NdX xs) : (getX xs k).length = xs.length := by
  unfold getX
  split
  · rename_i h
    obtain ⟨a, b, e1, e2, _, _⟩ := has_split hn h
    rw [e2]
    have := congrArg List.length e1
    simp only [List.length_append, List.length_cons, List.length_nil] at this ⊢
    omega
  · rfl
/-! ### Drop, key by key -/
def stX (xs : Xs) (p : List UInt8) (i : Nat) : Xs := dropX (xs.take i) p ++ xs.drop i
theorem st_zero (xs : Xs) (p : List UInt8) : stX xs p 0 = xs := rfl
theorem st_all (xs : Xs) (p : List UInt8) : stX xs p xs.length = dropX xs p := by unfold stX; simp
theorem drop_step {xs : Xs} {p : List UInt8} {i : Nat} (h : i < xs.length) : dropX (xs.take (i + 1)) p = dropX (xs.take i) p ++ if begins p xs[i].1 = true then [] else [xs[i]] := by
  unfold dropX
  rw [List.take_add_one, List.getElem?_eq_getElem h, List.filter_append]
  congr 1
  show List.filter _ [xs[i]] = _
  simp only [List.filter_cons, List.filter_nil]
  cases begins p xs[i].1 <;> rfl
theorem st_stay {xs : Xs} {p : List UInt8} {i : Nat} (h : i < xs.length) (hb : begins p xs[i].1 = false) : stX xs p (i + 1) = stX xs p i := by
  unfold stX
  rw [drop_step h, hb, List.drop_eq_getElem_cons h]
  simp
theorem st_go {xs : Xs} {p : List UInt8} {i : Nat} (hn : NdX xs) (h : i < xs.length) (hb : begins p xs[i].1 = true) :
    has (stX xs p i) xs[i].1 = true ∧ wo (stX xs p i) xs[i].1 = stX xs p (i + 1) ∧ (dropX (xs.take (i + 1)) p).length = (dropX (xs.take i) p).length := by
  have e : xs = xs.take i ++ (xs[i].1, xs[i].2) :: xs.drop (i + 1) := by
    show xs = xs.take i ++ xs[i] :: xs.drop (i + 1)
    rw [← List.drop_eq_getElem_cons h, List.take_append_drop]
  obtain ⟨h1, h2⟩ := nd_split (e ▸ hn : NdX (xs.take i ++ (xs[i].1, xs[i].2) :: xs.drop (i + 1)))
  have e2 : stX xs p i = dropX (xs.take i) p ++ (xs[i].1, xs[i].2) :: xs.drop (i + 1) := by
    unfold stX
    rw [List.drop_eq_getElem_cons h]
  have h3 : ∀ y ∈ dropX (xs.take i) p, y.1 ≠ xs[i].1 := fun y hy => h1 y (List.filter_sublist.subset hy)
  refine ⟨?_, ?_, ?_⟩
  · rw [e2, has_iff]; simp
  · rw [e2, wo_mid h3 h2]
    unfold stX
    rw [drop_step h, hb]
    simp
  · rw [drop_step h, hb]; simp
theorem len_drop_take (xs : Xs) (p : List UInt8) (i : Nat) : (dropX (xs.take i) p).length ≤ i :=
  Nat.le_trans (List.length_filter_le _ _) (by rw [List.length_take]; omega)
end Go.Proofs.Ytdicpbecdhaphaa.Av.LruK
