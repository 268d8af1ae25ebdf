/- cache over a tree: what is known is what stands there. Plain. No conditions. -/
import Derived.Test.YtdicpbecdhaphaaLruPK
import Derived.Test.YtdicpbecdhaphaaTree3
namespace Go.Proofs.Ytdicpbecdhaphaa.Av.LruK
open Go Go.RowKit Pre
set_option linter.unusedVariables false
set_option linter.unusedSimpArgs false
/-- what a cache may tell of a key -/
def encG : Option (List UInt8) → VT
  | some v => (v, true)
  | none => ([], false)
/-- what is known is so -/
def Coh (g : List UInt8 → Option (List UInt8)) (xs : Xs) : Prop := ∀ x ∈ xs, x.2 = encG (g x.1)
theorem coh_sub {g : List UInt8 → Option (List UInt8)} {xs ys : Xs} (hs : List.Sublist ys xs) (h : Coh g xs) : Coh g ys := fun x hx => h x (hs.subset hx)
theorem coh_nil (g : List UInt8 → Option (List UInt8)) : Coh g [] := fun _ h => by cases h
theorem coh_wo {g g' : List UInt8 → Option (List UInt8)} {xs : Xs} {k : List UInt8} (h : Coh g xs) (hg : ∀ k', k' ≠ k → g' k' = g k') : Coh g' (wo xs k) := fun x hx => by
  obtain ⟨h1, h2⟩ := wo_mem.1 hx
  rw [hg _ h2]
  exact h x h1
theorem coh_drop {g g' : List UInt8 → Option (List UInt8)} {xs : Xs} {p : List UInt8} (h : Coh g xs) (hg : ∀ k', begins p k' = false → g' k' = g k') : Coh g' (dropX xs p) := fun x hx => by
  obtain ⟨h1, h2⟩ := List.mem_filter.1 hx
  rw [hg _ (by simpa using h2)]
  exact h x h1
theorem coh_put {g : List UInt8 → Option (List UInt8)} {m : Nat} {xs : Xs} {k : List UInt8} (h : Coh g xs) : Coh g (putX m xs k (encG (g k))) := by
  refine coh_sub (put_sub ..) fun x hx => ?_
  rcases List.mem_append.1 hx with hx | hx
  · exact h x (wo_mem.1 hx).1
  · rw [List.mem_singleton] at hx; subst hx; rfl
theorem has_mem {xs : Xs} {k : List UInt8} (hd : NdX xs) (h : has xs k = true) : (k, val xs k) ∈ xs := by
  obtain ⟨a, b, e1, _⟩ := has_split hd h
  have : (k, val xs k) ∈ a ++ (k, val xs k) :: b := by simp
  rwa [← e1] at this
theorem coh_val {g : List UInt8 → Option (List UInt8)} {xs : Xs} {k : List UInt8} (hd : NdX xs) (h : Coh g xs) (hh : has xs k = true) : val xs k = encG (g k) := h _ (has_mem hd hh)
theorem coh_get {g : List UInt8 → Option (List UInt8)} {xs : Xs} {k : List UInt8} (hd : NdX xs) (h : Coh g xs) : Coh g (getX xs k) := by
  unfold getX
  split
  · rename_i hh
    intro x hx
    rcases List.mem_append.1 hx with hx | hx
    · exact h x (wo_mem.1 hx).1
    · rw [List.mem_singleton] at hx; subst hx
      exact coh_val hd h hh
  · exact h
/-- what was noted last is there, if there is a place -/
theorem put_has {m : Nat} {xs : Xs} {k : List UInt8} {v : VT} (hd : NdX xs) (hl : xs.length ≤ m) : has (putX m xs k v) k = decide (0 < m) ∧ (0 < m → val (putX m xs k v) k = v) := by
  have hnd := nd_put (most := m) (k := k) (v := v) hd
  have key : (k, v) ∈ putX m xs k v → has (putX m xs k v) k = true ∧ val (putX m xs k v) k = v := fun hm => by
    have h1 : has (putX m xs k v) k = true := has_iff.2 (List.mem_map.2 ⟨_, hm, rfl⟩)
    refine ⟨h1, ?_⟩
    obtain ⟨a, b, e⟩ := List.append_of_mem hm
    have h2 := nd_split (e ▸ hnd : NdX (a ++ (k, v) :: b))
    rw [e]
    exact val_mid h2.1
  by_cases h0 : 0 < m
  · rw [decide_eq_true h0]
    have hm : (k, v) ∈ putX m xs k v := by
      have hwl := len_wo xs k
      by_cases hfit : (wo xs k).length + 1 ≤ m
      · rw [(put_fit hfit).2]; simp
      · cases hw : wo xs k with
        | nil => rw [hw] at hfit; simp at hfit; omega
        | cons y ys =>
          have e : wo xs k ++ [(k, v)] = y :: (ys ++ [(k, v)]) := by rw [hw]; rfl
          rw [(put_out e (by rw [hw] at hfit hwl; simp at hfit hwl ⊢; omega)).2]
          simp
    obtain ⟨q1, q2⟩ := key hm
    exact ⟨q1, fun _ => q2⟩
  · have hm0 : m = 0 := by omega
    subst hm0
    have hx0 : xs = [] := List.length_eq_zero_iff.1 (by omega)
    subst hx0
    exact ⟨rfl, fun h => absurd h h0⟩
/-! ### the tree's side -/
open Tre in
theorem tget_put {t : Tr} (h : Tr.Good t) (k v k' : Key) (hk : k' ≠ k) : Tr.get k' (Tr.put k v t) = Tr.get k' t := by
  obtain ⟨g1, e1⟩ := h.put k v
  rw [Tr.get_toL g1.srt, Tr.get_toL h.srt, e1]
  generalize t.toL = l
  induction l with
  | nil => show getL k' [(k, v)] = none; simp [getL, Ne.symm hk]
  | cons x l ih =>
    obtain ⟨a, b⟩ := x
    unfold putL
    split
    · show (if a = k' then some b else getL k' (putL k v l)) = if a = k' then some b else getL k' l
      rw [ih]
    · split
      · rename_i e
        subst e
        show (if a = k' then some v else getL k' l) = if a = k' then some b else getL k' l
        rw [if_neg (Ne.symm hk), if_neg (Ne.symm hk)]
      · show (if k = k' then some v else getL k' ((a, b) :: l)) = _
        rw [if_neg (Ne.symm hk)]
open Tre in
theorem getL_filter {f : Pr → Bool} {k' : Key} (hf : ∀ v, f (k', v) = true) : ∀ l : List Pr, getL k' (l.filter f) = getL k' l
  | [] => rfl
  | (a, b) :: l => by
    by_cases e : a = k'
    · subst e
      rw [List.filter_cons_of_pos (hf b)]
      show (if a = a then some b else _) = if a = a then some b else _
      rw [if_pos rfl, if_pos rfl]
    · cases hfa : f (a, b) with
      | true =>
        rw [List.filter_cons_of_pos hfa]
        show (if a = k' then some b else getL k' (l.filter f)) = if a = k' then some b else getL k' l
        rw [getL_filter hf l]
      | false =>
        rw [List.filter_cons_of_neg (by rw [hfa]; decide)]
        show _ = if a = k' then some b else getL k' l
        rw [if_neg e, getL_filter hf l]
open Tre in
theorem tget_del {t : Tr} (h : Tr.Good t) (k k' : Key) (hk : k' ≠ k) : Tr.get k' (Tr.del k t) = Tr.get k' t := by
  obtain ⟨g1, e1⟩ := h.del k
  rw [Tr.get_toL g1.srt, Tr.get_toL h.srt, e1]
  exact getL_filter (fun v => by simpa using hk) _
open Tre in
theorem tget_drop {t : Tr} (h : Tr.Good t) (p k' : Key) (hk : Pre.begins p k' = false) : Tr.get k' (Tr.drop p t) = Tr.get k' t := by
  obtain ⟨g1, e1⟩ := h.drop p
  rw [Tr.get_toL g1.srt, Tr.get_toL h.srt, e1]
  exact getL_filter (fun v => by show (!Tre.begins p k') = true; rw [show Tre.begins p k' = false from hk]; rfl) _
end Go.Proofs.Ytdicpbecdhaphaa.Av.LruK
