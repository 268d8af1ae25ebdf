/- lru: what stays behind many puts. Plain. No conditions. -/
import Derived.Test.YtdjdcpbakeahcaaLruL1
namespace Go.Proofs.Ytdjdcpbakeahcaa.Av.LruI
open Go Go.RowKit Pre
set_option linter.unusedVariables false
set_option linter.unusedSimpArgs false
theorem has_app (a b : Xs) (k : List UInt8) : has (a ++ b) k = (has a k || has b k) := by unfold has; rw [List.any_append]
theorem has_wo {xs : Xs} {k k' : List UInt8} : has (wo xs k) k' = (has xs k' && !(k' == k)) := by
  rw [Bool.eq_iff_iff, Bool.and_eq_true, has_iff, has_iff, List.mem_map, List.mem_map]
  constructor
  · rintro ⟨y, h, rfl⟩
    obtain ⟨h1, h2⟩ := wo_mem.1 h
    exact ⟨⟨y, h1, rfl⟩, by simpa using h2⟩
  · rintro ⟨⟨y, h, rfl⟩, h2⟩
    exact ⟨y, wo_mem.2 ⟨h, by simpa using h2⟩, rfl⟩
/-- the keys that were put last, the last one first, each with what it was put with last -/
def sc : List OpL → Xs
  | [] => []
  | o :: l => sc l ++ if has (sc l) o.2.1 = true then [] else [(o.2.1, o.2.2)]
theorem has_sc (o : OpL) (S : Xs) : has [(o.2.1, o.2.2)] o.2.1 = true := by simp [has]
theorem sc_concat : ∀ (l : List OpL) (o : OpL), sc (l ++ [o]) = (o.2.1, o.2.2) :: wo (sc l) o.2.1
  | [], o => by simp [sc, has, wo]
  | a :: l, o => by
    show sc (l ++ [o]) ++ (if has (sc (l ++ [o])) a.2.1 = true then [] else [(a.2.1, a.2.2)]) = _
    rw [sc_concat l o]
    show _ = (o.2.1, o.2.2) :: wo (sc l ++ if has (sc l) a.2.1 = true then [] else [(a.2.1, a.2.2)]) o.2.1
    rw [wo_app]
    have e : has ((o.2.1, o.2.2) :: wo (sc l) o.2.1) a.2.1 = (o.2.1 == a.2.1 || (has (sc l) a.2.1 && !(a.2.1 == o.2.1))) := by
      rw [← has_wo]; rfl
    rw [e]
    have e2 : (o.2.1 == a.2.1) = (a.2.1 == o.2.1) := by rw [Bool.eq_iff_iff, beq_iff_eq, beq_iff_eq]; exact eq_comm
    rw [e2]
    cases hq : (a.2.1 == o.2.1) with
    | true =>
      cases has (sc l) a.2.1 with
      | true => simp [wo]
      | false => simp [wo, hq]
    | false =>
      cases has (sc l) a.2.1 with
      | true => simp [wo]
      | false => simp [wo, hq]
theorem nd_sc : ∀ l : List OpL, NdX (sc l)
  | [] => by simp [NdX, sc]
  | o :: l => by
    show NdX (sc l ++ if has (sc l) o.2.1 = true then [] else [(o.2.1, o.2.2)])
    cases h : has (sc l) o.2.1 with
    | true => simpa using nd_sc l
    | false =>
      have := nd_end (v := o.2.2) (k := o.2.1) (nd_sc l)
      rw [wo_none h] at this
      simpa using this
def pa (m : Nat) (l : List OpL) : Xs := l.foldl (fun xs o => putX m xs o.2.1 o.2.2) []
theorem pa_concat (m : Nat) (l : List OpL) (o : OpL) : pa m (l ++ [o]) = putX m (pa m l) o.2.1 o.2.2 := by unfold pa; rw [List.foldl_append]; rfl
theorem take_wo {k : List UInt8} : ∀ {S : Xs} {n : Nat}, NdX S → (wo (S.take (n + 1)) k).take n = (wo S k).take n
  | [], n, _ => by simp
  | x :: S, n, h => by
    have h' : NdX S := nd_sub (List.sublist_cons_self _ _) h
    rw [List.take_succ_cons]
    by_cases e : x.1 = k
    · have hk : ∀ y ∈ S, y.1 ≠ k := fun y hy e2 => (List.nodup_cons.1 h).1 (List.mem_map.2 ⟨y, hy, e2.trans e.symm⟩)
      have e1 : ∀ S' : Xs, (∀ y ∈ S', y.1 ≠ k) → wo (x :: S') k = S' := fun S' h1 => by
        show (x :: S').filter _ = _
        rw [List.filter_cons_of_neg (by simpa using e)]
        exact wo_same h1
      rw [e1 _ hk, e1 _ fun y hy => hk y (List.mem_of_mem_take hy), List.take_take, Nat.min_self]
    · have e1 : ∀ S' : Xs, wo (x :: S') k = x :: wo S' k := fun S' => by
        show (x :: S').filter _ = _
        rw [List.filter_cons_of_pos (by simpa using e)]
        rfl
      rw [e1, e1]
      cases n with
      | zero => simp
      | succ n => rw [List.take_succ_cons, List.take_succ_cons, take_wo h']
theorem wo_rev (S : Xs) (k : List UInt8) : wo S.reverse k = (wo S k).reverse := by unfold wo; rw [List.filter_reverse]
theorem put_rev {m : Nat} {S : Xs} {k : List UInt8} {v : VT} (hm : 1 ≤ m) (h : NdX S) : putX m (S.take m).reverse k v = (((k, v) :: wo S k).take m).reverse := by
  obtain ⟨n, rfl⟩ : ∃ n, m = n + 1 := ⟨m - 1, by omega⟩
  have e1 : wo (S.take (n + 1)).reverse k ++ [(k, v)] = ((k, v) :: wo (S.take (n + 1)) k).reverse := by rw [wo_rev, List.reverse_cons]
  have e2 : ((k, v) :: wo S k).take (n + 1) = ((k, v) :: wo (S.take (n + 1)) k).take (n + 1) := by
    rw [List.take_succ_cons, List.take_succ_cons, take_wo h]
  have hl : (wo (S.take (n + 1)) k).length ≤ n + 1 := Nat.le_trans (len_wo _ _) (by rw [List.length_take]; omega)
  rw [e2]
  by_cases hfit : (wo (S.take (n + 1)).reverse k).length + 1 ≤ n + 1
  · rw [(put_fit hfit).2, e1]
    congr 1
    symm
    apply List.take_of_length_le
    rw [wo_rev, List.length_reverse] at hfit
    rw [List.length_cons]; exact hfit
  · rw [wo_rev, List.length_reverse] at hfit
    have hl2 : (wo (S.take (n + 1)) k).length = n + 1 := by omega
    generalize wo (S.take (n + 1)) k = Y at *
    obtain ⟨y, ys, ey⟩ : ∃ y ys, ((k, v) :: Y).reverse = y :: ys := by
      cases h9 : ((k, v) :: Y).reverse with
      | nil => simp at h9
      | cons y ys => exact ⟨y, ys, rfl⟩
    have hys : ys.length = n + 1 := by
      have := congrArg List.length ey
      simp at this; omega
    rw [(put_out (e1.trans ey) (by omega)).2]
    have e3 : (((k, v) :: Y).take (n + 1)).reverse = ((k, v) :: Y).reverse.drop 1 := by
      rw [List.drop_reverse, List.length_cons, hl2]
      rfl
    rw [e3, ey]; rfl
theorem pa_sc (m : Nat) (hm : 1 ≤ m) (l : List OpL) : pa m l = ((sc l).take m).reverse := by
  have key : ∀ (r : List OpL), pa m r.reverse = ((sc r.reverse).take m).reverse := by
    intro r
    induction r with
    | nil => simp [pa, sc]
    | cons o r ih => rw [List.reverse_cons, pa_concat, ih, put_rev hm (nd_sc _), sc_concat]
  have := key l.reverse
  rwa [List.reverse_reverse] at this
theorem pre_sc : ∀ (l : List OpL) (j : Nat), sc (l.drop j) <+: sc l
  | [], j => by simp [sc]
  | o :: l, 0 => List.prefix_refl _
  | o :: l, j + 1 => (pre_sc l j).trans (List.prefix_append _ _)
theorem sc_step {l : List OpL} {j : Nat} (h : j < l.length) : sc (l.drop j) = sc (l.drop (j + 1)) ++ if has (sc (l.drop (j + 1))) l[j].2.1 = true then [] else [(l[j].2.1, l[j].2.2)] := by
  rw [List.drop_eq_getElem_cons h]; rfl
theorem val_mem {xs : Xs} {k : List UInt8} {v : VT} (hd : NdX xs) (h : (k, v) ∈ xs) : val xs k = v ∧ has xs k = true := by
  obtain ⟨i, hi, e⟩ := List.getElem_of_mem h
  have := val_at hd hi
  rw [e] at this
  exact this
/-- a key that was put last is there -/
theorem sc_there {m : Nat} (hm : 1 ≤ m) {l : List OpL} {j : Nat} (h : j < l.length) (hn : has (sc (l.drop (j + 1))) l[j].2.1 = false) (hlen : (sc (l.drop (j + 1))).length < m) :
    val (pa m l) l[j].2.1 = l[j].2.2 ∧ has (pa m l) l[j].2.1 = true := by
  rw [pa_sc m hm]
  have e := sc_step h
  rw [hn, if_neg (by decide)] at e
  have hp := pre_sc l j
  rw [e] at hp
  refine val_mem ?_ ?_
  · have h1 : NdX ((sc l).take m) := nd_sub (List.take_sublist _ _) (nd_sc l)
    unfold NdX at h1 ⊢
    rw [List.map_reverse]; exact (List.reverse_perm _).symm.nodup h1
  · rw [List.mem_reverse]
    obtain ⟨t, ht⟩ := hp
    rw [← ht]
    have : ∀ (A B : Xs) (x : List UInt8 × VT), A.length < m → x ∈ (A ++ [x] ++ B).take m := fun A B x hA => by
      rw [List.append_assoc, List.take_append, List.take_of_length_le (by omega)]
      obtain ⟨q, hq⟩ : ∃ q, m - A.length = q + 1 := ⟨m - A.length - 1, by omega⟩
      rw [hq]; simp
    exact this _ _ _ hlen
theorem sc_len {m : Nat} (hm : 1 ≤ m) {l : List OpL} {j : Nat} (hlen : (sc (l.drop j)).length ≤ m) (h : j = 0 ∨ (sc (l.drop j)).length = m) : (pa m l).length = (sc (l.drop j)).length := by
  rw [pa_sc m hm, List.length_reverse, List.length_take]
  rcases h with rfl | h
  · rw [List.drop_zero] at *; omega
  · have := (pre_sc l j).length_le
    omega
theorem nd_pa (m : Nat) (hm : 1 ≤ m) (l : List OpL) : NdX (pa m l) := by
  rw [pa_sc m hm]
  have h1 : NdX ((sc l).take m) := nd_sub (List.take_sublist _ _) (nd_sc l)
  unfold NdX at h1 ⊢
  rw [List.map_reverse]; exact (List.reverse_perm _).symm.nodup h1
theorem len_pa (m : Nat) (hm : 1 ≤ m) (l : List OpL) : (pa m l).length ≤ m := by
  rw [pa_sc m hm, List.length_reverse, List.length_take]; omega
theorem kb_pa (m : Nat) : ∀ (l : List OpL), (∀ o ∈ l, o.2.1.length ≤ 60) → KB (pa m l) := by
  intro l h
  have key : ∀ (l : List OpL) (xs : Xs), (∀ o ∈ l, o.2.1.length ≤ 60) → KB xs → KB (l.foldl (fun xs o => putX m xs o.2.1 o.2.2) xs) := by
    intro l
    induction l with
    | nil => intro xs _ hx; exact hx
    | cons o l ih => intro xs h hx; exact ih _ (fun o ho => h o (List.mem_cons_of_mem _ ho)) (kb_put (by have := h o List.mem_cons_self; omega) hx)
  exact key l [] h fun _ h => by cases h
theorem pa_step (m : Nat) {l : List OpL} {i : Nat} (h : i < l.length) : pa m (l.take (i + 1)) = putX m (pa m (l.take i)) l[i].2.1 l[i].2.2 := by
  rw [List.take_add_one, List.getElem?_eq_getElem h]
  exact pa_concat m _ _
/-! ### a key that is used -/
theorem sub_len : ∀ {a O : List (List UInt8)}, a.Nodup → (∀ x ∈ a, x ∈ O) → a.length ≤ O.length
  | [], _, _, _ => Nat.zero_le _
  | x :: a, O, h, hs => by
    have h' := List.nodup_cons.1 h
    obtain ⟨p, q, rfl⟩ := List.append_of_mem (hs x List.mem_cons_self)
    have := sub_len (O := p ++ q) h'.2 fun y hy => by
      have h1 := hs y (List.mem_cons_of_mem _ hy)
      have hne : y ≠ x := fun e => h'.1 (e ▸ hy)
      simp only [List.mem_append, List.mem_cons] at h1 ⊢
      rcases h1 with h1 | h1 | h1
      · exact .inl h1
      · exact absurd h1 hne
      · exact .inr h1
    simp only [List.length_append, List.length_cons] at this ⊢
    omega
/-- what was used behind a key are others -/
def Kp (key : List UInt8) (O : List (List UInt8)) (xs : Xs) : Prop := ∃ a b, xs = a ++ (key, 7) :: b ∧ ∀ y ∈ b, y.1 ∈ O
theorem kp_val {key : List UInt8} {O : List (List UInt8)} {xs : Xs} (hd : NdX xs) (h : Kp key O xs) : val xs key = 7 ∧ has xs key = true := by
  obtain ⟨a, b, rfl, _⟩ := h
  exact val_mem hd (by simp)
theorem kp_get {key : List UInt8} {O : List (List UInt8)} {xs : Xs} (hd : NdX xs) (h : Kp key O xs) : Kp key [] (getX xs key) := by
  obtain ⟨e1, e2⟩ := kp_val hd h
  unfold getX
  rw [if_pos e2, e1]
  exact ⟨_, [], rfl, fun _ h => by cases h⟩
theorem kp_put {m : Nat} {key k : List UInt8} {v : VT} {O O' : List (List UInt8)} {xs : Xs} (hd : NdX xs) (h : Kp key O xs) (hk : k ≠ key) (hO : ∀ x ∈ O, x ∈ O') (hkO : k ∈ O') (hlen : O'.length < m) : Kp key O' (putX m xs k v) := by
  obtain ⟨a, b, rfl, hb⟩ := h
  have e1 : wo (a ++ (key, 7) :: b) k = wo a k ++ (key, 7) :: wo b k := by
    rw [wo_app]
    congr 1
    unfold wo
    rw [List.filter_cons_of_pos (by simpa using hk.symm)]
  have hb' : ∀ y ∈ wo b k ++ [(k, v)], y.1 ∈ O' := fun y hy => by
    rcases List.mem_append.1 hy with hy | hy
    · exact hO _ (hb _ (wo_mem.1 hy).1)
    · rw [List.mem_singleton] at hy; subst hy; exact hkO
  have e2 : wo (a ++ (key, 7) :: b) k ++ [(k, v)] = wo a k ++ (key, 7) :: (wo b k ++ [(k, v)]) := by rw [e1]; simp
  have hnb : NdX (wo b k ++ [(k, v)]) := nd_end (nd_sub (List.Sublist.trans (List.sublist_cons_self _ _) (List.sublist_append_right _ _)) hd)
  have hl : (wo b k ++ [(k, v)]).length ≤ O'.length := by
    have := sub_len hnb fun x hx => by obtain ⟨y, hy, rfl⟩ := List.mem_map.1 hx; exact hb' y hy
    simpa using this
  by_cases hfit : (wo (a ++ (key, 7) :: b) k).length + 1 ≤ m
  · rw [(put_fit hfit).2, e2]
    exact ⟨_, _, rfl, hb'⟩
  · have e3 : (wo (a ++ (key, 7) :: b) k).length = (wo a k).length + (wo b k).length + 1 := by rw [e1]; simp; omega
    cases hw : wo a k with
    | nil =>
      rw [hw] at e3
      simp at e3 hl
      omega
    | cons y ys =>
      rw [hw] at e2
      have e4 : wo (a ++ (key, 7) :: b) k ++ [(k, v)] = y :: (ys ++ (key, 7) :: (wo b k ++ [(k, v)])) := e2
      have hl4 := congrArg List.length e4
      rw [List.length_append] at hl4
      simp only [List.length_cons, List.length_nil] at hl4
      rw [(put_out e4 (by omega)).2]
      exact ⟨_, _, rfl, hb'⟩
end Go.Proofs.Ytdjdcpbakeahcaa.Av.LruI
