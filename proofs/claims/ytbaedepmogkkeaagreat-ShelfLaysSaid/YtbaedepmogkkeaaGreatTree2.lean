/- tree: balance and height; what begins with a text; what is taken away: plain. No program is in sight. No conditions. -/
import Derived.Test.YtbaedepmogkkeaaGreatTree1
namespace Go.Proofs.YtbaedepmogkkeaaGreat.Tre
open Go
set_option linter.unusedVariables false
set_option linter.unusedSimpArgs false

namespace Tr
theorem hh_max {l r : Tr} {k v : Key} : (node l k v r).hh = 1 + max l.hh r.hh := by
  simp only [hh]; split <;> omega
/-- halves differ by one in height at most -/
def Bal : Tr → Prop
  | nil => True
  | node l _ _ r => l.Bal ∧ r.Bal ∧ -1 ≤ l.hh - r.hh ∧ l.hh - r.hh ≤ 1
theorem bal_node {l r : Tr} {k v : Key} : (node l k v r).Bal ↔ l.Bal ∧ r.Bal ∧ -1 ≤ l.hh - r.hh ∧ l.hh - r.hh ≤ 1 := Iff.rfl
theorem pos_node {t : Tr} (h : 1 ≤ t.hh) : ∃ l k v r, t = node l k v r := by
  cases t with
  | nil => simp [hh] at h
  | node l k v r => exact ⟨l, k, v, r, rfl⟩
theorem level_bal {l r : Tr} {k v : Key} (hl : l.Bal) (hr : r.Bal) (h1 : -2 ≤ l.hh - r.hh) (h2 : l.hh - r.hh ≤ 2) :
    (level (node l k v r)).Bal ∧ (level (node l k v r)).hh ≤ (node l k v r).hh ∧ (node l k v r).hh - 1 ≤ (level (node l k v r)).hh ∧ (-1 ≤ l.hh - r.hh → l.hh - r.hh ≤ 1 → level (node l k v r) = node l k v r) := by
  have p1 := hh_pos l
  have p2 := hh_pos r
  simp only [level]
  split
  · rename_i hd
    obtain ⟨ll, lk, lv, lr, rfl⟩ := pos_node (t := l) (by omega)
    rw [bal_node] at hl
    rw [hh_max] at hd h1 h2
    have p3 := hh_pos ll
    have p4 := hh_pos lr
    split
    · rename_i h3
      simp only [left, right] at h3
      obtain ⟨a, b, c, d, rfl⟩ := pos_node (t := lr) (by omega)
      have hb := bal_node.1 hl.2.1
      rw [hh_max] at hd h1 h2 h3 hl
      simp only [turnLeft, turnRight, bal_node, hh_max]
      refine ⟨⟨⟨hl.1, hb.1, by omega, by omega⟩, ⟨hb.2.1, hr, by omega, by omega⟩, by omega, by omega⟩, by omega, by omega, fun _ _ => by omega⟩
    · rename_i h3
      simp only [left, right] at h3
      simp only [turnRight, bal_node, hh_max]
      refine ⟨⟨hl.1, ⟨hl.2.1, hr, by omega, by omega⟩, by omega, by omega⟩, by omega, by omega, fun _ _ => by omega⟩
  · rename_i hd
    split
    · rename_i hd2
      obtain ⟨rl, rk, rv, rr, rfl⟩ := pos_node (t := r) (by omega)
      rw [bal_node] at hr
      rw [hh_max] at hd hd2 h1 h2
      have p3 := hh_pos rl
      have p4 := hh_pos rr
      split
      · rename_i h3
        simp only [left, right] at h3
        obtain ⟨a, b, c, d, rfl⟩ := pos_node (t := rl) (by omega)
        have hb := bal_node.1 hr.1
        rw [hh_max] at hd hd2 h1 h2 h3 hr
        simp only [turnLeft, turnRight, bal_node, hh_max]
        refine ⟨⟨⟨hl, hb.1, by omega, by omega⟩, ⟨hb.2.1, hr.2.1, by omega, by omega⟩, by omega, by omega⟩, by omega, by omega, fun _ _ => by omega⟩
      · rename_i h3
        simp only [left, right] at h3
        simp only [turnLeft, bal_node, hh_max]
        refine ⟨⟨⟨hl, hr.1, by omega, by omega⟩, hr.2.1, by omega, by omega⟩, by omega, by omega, fun _ _ => by omega⟩
    · exact ⟨⟨hl, hr, by omega, by omega⟩, Int.le_refl _, by omega, fun _ _ => rfl⟩
/-- the height behind level, in any case -/
theorem level_hh {l r : Tr} {k v : Key} (hl : l.Bal) (hr : r.Bal) (h1 : -2 ≤ l.hh - r.hh) (h2 : l.hh - r.hh ≤ 2) :
    (level (node l k v r)).Bal ∧ (level (node l k v r)).hh ≤ 1 + max l.hh r.hh ∧ max l.hh r.hh ≤ (level (node l k v r)).hh ∧ (-1 ≤ l.hh - r.hh → l.hh - r.hh ≤ 1 → (level (node l k v r)).hh = 1 + max l.hh r.hh) := by
  obtain ⟨q1, q2, q3, q4⟩ := level_bal (k := k) (v := v) hl hr h1 h2
  rw [hh_max] at q2 q3
  exact ⟨q1, q2, by omega, fun a b => by rw [q4 a b, hh_max]⟩
theorem put_bal {key val : Key} : ∀ {t : Tr}, t.Bal → (put key val t).Bal ∧ t.hh ≤ (put key val t).hh ∧ (put key val t).hh ≤ t.hh + 1
  | nil, _ => by simp [put, Bal, hh]
  | node l k v r, h => by
    rw [bal_node] at h
    obtain ⟨hl, hr, h1, h2⟩ := h
    unfold put
    split
    · obtain ⟨i1, i2, i3⟩ := put_bal (key := key) (val := val) hl
      obtain ⟨q1, q2, q3, q4⟩ := level_hh (k := k) (v := v) i1 hr (by omega) (by omega)
      rw [hh_max]
      exact ⟨q1, by omega, by omega⟩
    · split
      · obtain ⟨i1, i2, i3⟩ := put_bal (key := key) (val := val) hr
        obtain ⟨q1, q2, q3, q4⟩ := level_hh (k := k) (v := v) hl i1 (by omega) (by omega)
        rw [hh_max]
        exact ⟨q1, by omega, by omega⟩
      · rw [bal_node, hh_max, hh_max]
        exact ⟨⟨hl, hr, h1, h2⟩, by omega, by omega⟩
theorem join_bal {k v : Key} : ∀ (n : Nat) (l r : Tr), l.sz + r.sz ≤ n → l.Bal → r.Bal → (join l k v r).Bal ∧ max l.hh r.hh ≤ (join l k v r).hh ∧ (join l k v r).hh ≤ max l.hh r.hh + 1
  | n, l, r, h, hl, hr => by
    unfold join
    cases l with
    | nil =>
      cases r with
      | nil => simp [Bal, hh]
      | node rl rk rv rr =>
        simp only
        have hr' := bal_node.1 hr
        have p1 := hh_pos rl
        have p2 := hh_pos rr
        have e0 : (nil : Tr).hh = 0 := rfl
        split
        · rename_i hc
          cases n with
          | zero => simp [sz] at h
          | succ n =>
            obtain ⟨i1, i2, i3⟩ := join_bal (k := k) (v := v) n nil rl (by simp [sz] at h ⊢; omega) trivial hr'.1
            rw [hh_max] at hc
            obtain ⟨q1, q2, q3, q4⟩ := level_hh (k := rk) (v := rv) i1 hr'.2.1 (by omega) (by omega)
            rw [hh_max]
            exact ⟨q1, by omega, by omega⟩
        · rename_i hc
          refine ⟨bal_node.2 ⟨trivial, hr, by omega, by have := hh_pos (node rl rk rv rr); omega⟩, ?_, ?_⟩
          · rw [hh_max (l := nil)]; omega
          · rw [hh_max (l := nil)]; omega
    | node ll lk lv lr =>
      have hl' := bal_node.1 hl
      have p1 := hh_pos ll
      have p2 := hh_pos lr
      have e0 : (nil : Tr).hh = 0 := rfl
      cases r with
      | nil =>
        simp only
        split
        · rename_i hc
          cases n with
          | zero => simp [sz] at h
          | succ n =>
            obtain ⟨i1, i2, i3⟩ := join_bal (k := k) (v := v) n lr nil (by simp [sz] at h ⊢; omega) hl'.2.1 trivial
            rw [hh_max] at hc
            obtain ⟨q1, q2, q3, q4⟩ := level_hh (k := lk) (v := lv) hl'.1 i1 (by omega) (by omega)
            rw [hh_max]
            exact ⟨q1, by omega, by omega⟩
        · rename_i hc
          refine ⟨bal_node.2 ⟨hl, trivial, by have := hh_pos (node ll lk lv lr); omega, by omega⟩, ?_, ?_⟩
          · rw [hh_max (l := node ll lk lv lr)]; omega
          · rw [hh_max (l := node ll lk lv lr)]; omega
      | node rl rk rv rr =>
        have hr' := bal_node.1 hr
        have p3 := hh_pos rl
        have p4 := hh_pos rr
        simp only
        split
        · rename_i hc
          cases n with
          | zero => simp [sz] at h
          | succ n =>
            obtain ⟨i1, i2, i3⟩ := join_bal (k := k) (v := v) n lr (node rl rk rv rr) (by simp [sz] at h ⊢; omega) hl'.2.1 hr
            rw [hh_max (l := ll), hh_max (l := rl)] at hc
            rw [hh_max (l := rl)] at i2 i3
            obtain ⟨q1, q2, q3, q4⟩ := level_hh (k := lk) (v := lv) hl'.1 i1 (by omega) (by omega)
            rw [hh_max (l := ll), hh_max (l := rl)]
            exact ⟨q1, by omega, by omega⟩
        · rename_i hc
          split
          · rename_i hc2
            cases n with
            | zero => simp [sz] at h
            | succ n =>
              obtain ⟨i1, i2, i3⟩ := join_bal (k := k) (v := v) n (node ll lk lv lr) rl (by simp [sz] at h ⊢; omega) hl hr'.1
              rw [hh_max (l := ll), hh_max (l := rl)] at hc hc2
              rw [hh_max (l := ll)] at i2 i3
              obtain ⟨q1, q2, q3, q4⟩ := level_hh (k := rk) (v := rv) i1 hr'.2.1 (by omega) (by omega)
              rw [hh_max (l := ll), hh_max (l := rl)]
              exact ⟨q1, by omega, by omega⟩
          · rename_i hc2
            refine ⟨bal_node.2 ⟨hl, hr, by omega, by omega⟩, ?_, ?_⟩
            · rw [hh_max (l := node ll lk lv lr)]; omega
            · rw [hh_max (l := node ll lk lv lr)]; omega
theorem first_bal : ∀ {t : Tr}, t.Bal → (first t).2.2.Bal ∧ t.hh - 1 ≤ (first t).2.2.hh ∧ (first t).2.2.hh ≤ t.hh
  | nil, _ => ⟨trivial, by simp [first, hh], by simp [first, hh]⟩
  | node nil k v r, h => by
    have h := bal_node.1 h
    have p := hh_pos r
    have e0 : (nil : Tr).hh = 0 := rfl
    simp only [first]
    rw [hh_max]
    exact ⟨h.2.1, by omega, by omega⟩
  | node (node a b c d) k v r, h => by
    have h := bal_node.1 h
    obtain ⟨i1, i2, i3⟩ := first_bal h.1
    have p := hh_pos r
    simp only [first]
    obtain ⟨q1, q2, q3, q4⟩ := level_hh (k := k) (v := v) i1 h.2.1 (by omega) (by omega)
    rw [hh_max (l := node a b c d)]
    exact ⟨q1, by omega, by omega⟩
theorem both_bal {l r : Tr} (hl : l.Bal) (hr : r.Bal) : (both l r).Bal := by
  cases r with
  | nil => exact hl
  | node a b c d => exact (join_bal _ _ _ (Nat.le_refl _) hl (first_bal hr).1).1
theorem split_bal {key : Key} : ∀ {t : Tr}, t.Bal → (split key t).1.Bal ∧ (split key t).2.Bal
  | nil, _ => ⟨trivial, trivial⟩
  | node l k v r, h => by
    have h := bal_node.1 h
    unfold split
    split
    · obtain ⟨i1, i2⟩ := split_bal (key := key) h.2.1
      exact ⟨(join_bal _ _ _ (Nat.le_refl _) h.1 i1).1, i2⟩
    · obtain ⟨i1, i2⟩ := split_bal (key := key) h.1
      exact ⟨i1, (join_bal _ _ _ (Nat.le_refl _) i2 h.2.1).1⟩

/-! ### how flat it is -/
def dig (n : Nat) : Nat := if n = 0 then 0 else 1 + dig (n / 2)
theorem dig_pow : ∀ (m n : Nat), 2 ^ m ≤ n → m + 1 ≤ dig n
  | 0, n, h => by
    have : 1 ≤ n := h
    unfold dig; rw [if_neg (by omega)]; omega
  | m + 1, n, h => by
    have h2 : 2 ^ m * 2 ≤ n := by rw [← Nat.pow_succ]; exact h
    have h1 : 2 ^ m ≤ n / 2 := by omega
    have := dig_pow m (n / 2) h1
    have hp : 0 < 2 ^ m := Nat.two_pow_pos m
    unfold dig; rw [if_neg (by omega)]; omega
theorem bal_cn : ∀ {t : Tr}, t.Bal → 1 ≤ t.hh → 2 ^ ((t.hh.toNat - 1) / 2) ≤ t.toL.length
  | nil, _, h => by simp [hh] at h
  | node l k v r, h, _ => by
    have h := bal_node.1 h
    have p1 := hh_pos l
    have p2 := hh_pos r
    have hm := hh_max (l := l) (r := r) (k := k) (v := v)
    simp only [toL, List.length_append, List.length_cons]
    have key : ∀ a : Nat, (node l k v r).hh.toNat = a + 3 → 2 ^ ((a + 3 - 1) / 2) ≤ l.toL.length + (r.toL.length + 1) := by
      intro a ha
      have e : 2 ^ ((a + 3 - 1) / 2) = 2 ^ (a / 2) + 2 ^ (a / 2) := by
        rw [show (a + 3 - 1) / 2 = a / 2 + 1 by omega, Nat.pow_succ]; omega
      have i1 := bal_cn h.1 (by omega)
      have i2 := bal_cn h.2.1 (by omega)
      have m1 : 2 ^ (a / 2) ≤ 2 ^ ((l.hh.toNat - 1) / 2) := Nat.pow_le_pow_right (by omega) (by omega)
      have m2 : 2 ^ (a / 2) ≤ 2 ^ ((r.hh.toNat - 1) / 2) := Nat.pow_le_pow_right (by omega) (by omega)
      omega
    by_cases h3 : 3 ≤ (node l k v r).hh.toNat
    · obtain ⟨a, ha⟩ : ∃ a, (node l k v r).hh.toNat = a + 3 := ⟨(node l k v r).hh.toNat - 3, by omega⟩
      rw [ha]
      exact key a ha
    · have : ((node l k v r).hh.toNat - 1) / 2 = 0 := by omega
      rw [this]
      omega
theorem flat_ok {t : Tr} (h : t.Bal) : t.hh ≤ 2 * (dig t.toL.length : Int) ∧ (0 < t.hh ↔ 0 < t.cn) := by
  have hc := cn_len t
  cases t with
  | nil => exact ⟨by show (0 : Int) ≤ _; omega, Iff.rfl⟩
  | node l k v r =>
    have h1 := hh_node (l := l) (k := k) (v := v) (r := r)
    have := bal_cn h h1
    have hd := dig_pow _ _ this
    have hcp : 0 < (node l k v r).cn := by
      have a := cn_pos l
      have b := cn_pos r
      simp only [cn]; omega
    exact ⟨by omega, by omega, by omega⟩

/-! ### what begins with a text -/
end Tr
/-- the least text above all that begin with a prefix -/
def beyond : Key → Option Key
  | [] => none
  | a :: p => match beyond p with
    | some q => some (a :: q)
    | none => if a.toNat < 255 then some [a + 1] else none
theorem beyond_none : ∀ {p : Key}, (∀ i (h : i < p.length), ¬ (p[i]).toNat < 255) → beyond p = none
  | [], _ => rfl
  | a :: p, h => by
    have h0 := h 0 (by simp)
    simp only [List.getElem_cons_zero] at h0
    unfold beyond
    rw [beyond_none fun i hi => by have := h (i + 1) (by simp; omega); simpa using this]
    simp only
    rw [if_neg h0]
theorem beyond_some : ∀ {p : Key} {i : Nat} (hi : i < p.length), (p[i]).toNat < 255 → (∀ j (h : j < p.length), i < j → ¬ (p[j]).toNat < 255) → beyond p = some (p.take i ++ [p[i] + 1])
  | a :: p, 0, _, h, hj => by
    simp only [List.getElem_cons_zero] at h
    unfold beyond
    rw [beyond_none fun j hj' => by have := hj (j + 1) (by simp; omega) (by omega); simpa using this]
    simp only
    rw [if_pos h]; rfl
  | a :: p, i + 1, hi, h, hj => by
    simp only [List.getElem_cons_succ] at h
    unfold beyond
    rw [beyond_some (i := i) (by simpa using hi) h fun j hj' hij => by have := hj (j + 1) (by simp; omega) (by omega); simpa using this]
    rfl
theorem begins_nil (x : Key) : begins [] x = true := by cases x <;> rfl
theorem begins_cons (a b : UInt8) (p x : Key) : begins (a :: p) (b :: x) = (a == b && begins p x) := rfl
theorem begins_ge : ∀ {p x : Key}, begins p x = true → lt x p = false
  | [], x, _ => lt_nil x
  | a :: p, [], h => by cases h
  | a :: p, b :: x, h => by
    rw [begins_cons, Bool.and_eq_true] at h
    have e : a = b := by simpa using h.1
    subst e
    rw [Bool.eq_false_iff]
    intro h2
    rcases (lt_cons a a x p).1 h2 with h2 | ⟨_, h2⟩
    · omega
    · rw [begins_ge h.2] at h2; cases h2
/-- of texts not below the prefix those begin with it that are below its end -/
theorem begins_iff : ∀ {p x : Key}, lt x p = false → (begins p x = true ↔ match beyond p with | none => True | some e => lt x e = true)
  | [], x, _ => by simp [begins_nil, beyond]
  | a :: p, [], h => by rw [lt_nil_cons] at h; cases h
  | a :: p, b :: x, h => by
    have hn : ¬ (b.toNat < a.toNat ∨ b = a ∧ lt x p = true) := fun h2 => by rw [(lt_cons b a x p).2 h2] at h; cases h
    have ha := a.toNat_lt
    have hb := b.toNat_lt
    rw [begins_cons, Bool.and_eq_true]
    by_cases e : a = b
    · subst e
      have hp : lt x p = false := by rw [Bool.eq_false_iff]; exact fun h2 => hn (.inr ⟨rfl, h2⟩)
      have ih := begins_iff hp
      unfold beyond
      cases hq : beyond p with
      | some q =>
        rw [hq] at ih
        simp only [lt_cons] at ih ⊢
        rw [ih]
        simp
      | none =>
        rw [hq] at ih
        simp only at ih
        simp only [beq_self_eq_true, true_and, ih]
        by_cases h255 : a.toNat < 255
        · rw [if_pos h255]
          simp only [lt_cons]
          have : (a + 1).toNat = a.toNat + 1 := by rw [UInt8.toNat_add]; simp; omega
          exact ⟨fun _ => .inl (by omega), fun _ => trivial⟩
        · rw [if_neg h255]
    · have hlt : a.toNat < b.toNat := by
        have : a.toNat ≠ b.toNat := fun h => e (UInt8.toNat_inj.1 h)
        omega
      have hf : (a == b) = false := by simpa using e
      rw [hf]
      simp only [Bool.false_eq_true, false_and, false_iff]
      unfold beyond
      cases hq : beyond p with
      | some q =>
        simp only [lt_cons]
        rintro (h2 | ⟨h2, _⟩)
        · omega
        · exact e h2.symm
      | none =>
        simp only
        rw [if_pos (by omega)]
        simp only [lt_cons, lt_nil]
        have : (a + 1).toNat = a.toNat + 1 := by rw [UInt8.toNat_add]; simp; omega
        rintro (h2 | ⟨_, h2⟩)
        · omega
        · cases h2
/-- of two texts not below a prefix, if the greater one begins with it, so does the other -/
theorem begins_mono {p x y : Key} (hx : lt x p = false) (hxy : lt x y = true) (hy : begins p y = true) : begins p x = true := by
  have h1 := (begins_iff (begins_ge hy)).1 hy
  rw [begins_iff hx]
  cases hq : beyond p with
  | none => trivial
  | some e =>
    rw [hq] at h1
    exact lt_trans hxy h1
namespace Tr
def del (key : Key) (t : Tr) : Tr := match get key t with
  | none => t
  | some _ => both (split key t).1 (first (split key t).2).2.2
def drop (p : Key) (t : Tr) : Tr := match beyond p with
  | none => (split p t).1
  | some e => both (split p t).1 (split e (split p t).2).2
theorem del_bal {key : Key} {t : Tr} (h : t.Bal) : (del key t).Bal := by
  unfold del
  split
  · exact h
  · exact both_bal (split_bal h).1 (first_bal (split_bal h).2).1
theorem drop_bal {p : Key} {t : Tr} (h : t.Bal) : (drop p t).Bal := by
  unfold drop
  split
  · exact (split_bal h).1
  · exact both_bal (split_bal h).1 (split_bal (split_bal h).2).2
theorem del_toL {key : Key} {t : Tr} (h : Srt t.toL) : (del key t).toL = delL key t.toL := by
  obtain ⟨s1, s2, s3⟩ := split_toL (key := key) h
  unfold del
  rw [get_toL h]
  cases hg : getL key t.toL with
  | none =>
    unfold delL
    rw [List.filter_eq_self.2]
    intro a ha
    have : a.1 ≠ key := fun e => by
      have := getL_of_mem (k := a.1) (v := a.2) h ha
      rw [e, hg] at this; cases this
    simpa using this
  | some v =>
    have hm := getL_mem hg
    rw [← s1] at hm
    rcases List.mem_append.1 hm with hm | hm
    · have := s2 _ hm
      rw [lt_irr] at this; cases this
    · simp only
      have hne : (split key t).2 ≠ nil := fun e => by rw [e] at hm; cases hm
      have hf := first_toL _ hne
      rw [both_toL, ← s1]
      unfold delL
      rw [List.filter_append, List.filter_eq_self.2 (fun a ha => by simpa using lt_ne (s2 a ha))]
      congr 1
      rw [← s1] at h
      have hsr := h.app_right
      rw [← hf] at hsr hm
      have hp := List.pairwise_cons.1 hsr
      have hk : (first (split key t).2).1 = key := by
        rcases List.mem_cons.1 hm with e | hm
        · injection e with e _; exact e.symm
        · have h1 := hp.1 _ hm
          have h2 := s3 ((first (split key t).2).1, (first (split key t).2).2.1) (by rw [← hf]; simp)
          simp only at h1 h2
          rw [h1] at h2; cases h2
      rw [← hf, List.filter_cons, if_neg (by simp [hk]), List.filter_eq_self.2]
      intro a ha
      have := hp.1 a ha
      simp only [hk] at this
      simpa using fun e => lt_ne this e.symm
theorem drop_toL {p : Key} {t : Tr} (h : Srt t.toL) : (drop p t).toL = dropL p t.toL := by
  obtain ⟨s1, s2, s3⟩ := split_toL (key := p) h
  have hs := h
  rw [← s1] at hs
  have hless : ((split p t).1.toL).filter (fun q => !begins p q.1) = (split p t).1.toL := by
    rw [List.filter_eq_self]
    intro a ha
    cases hb : begins p a.1 with
    | false => rfl
    | true => have := begins_ge hb; rw [s2 a ha] at this; cases this
  have hdl : dropL p t.toL = (split p t).1.toL ++ ((split p t).2.toL).filter (fun q => !begins p q.1) := by
    unfold dropL
    rw [← s1, List.filter_append, hless]
  unfold drop
  rw [hdl]
  cases hq : beyond p with
  | none =>
    simp only
    rw [(List.filter_eq_nil_iff (l := (split p t).2.toL)).2 (fun a ha => by
      have := (begins_iff (s3 a ha)).2 (by rw [hq]; trivial)
      rw [this]; decide)]
    simp
  | some e =>
    simp only
    obtain ⟨r1, r2, r3⟩ := split_toL (key := e) hs.app_right
    have hge : ∀ a ∈ (split p t).2.toL, (begins p a.1 = true ↔ lt a.1 e = true) := fun a ha => by
      have := begins_iff (s3 a ha)
      rw [hq] at this; exact this
    rw [both_toL]
    congr 1
    rw [← r1, List.filter_append, (List.filter_eq_nil_iff (l := (split e (split p t).2).1.toL)).2 (fun a ha => by
      have := (hge a (by rw [← r1]; exact List.mem_append_left _ ha)).2 (r2 a ha)
      rw [this]; decide), List.filter_eq_self.2 (fun a ha => by
      cases hb : begins p a.1 with
      | false => rfl
      | true =>
        have h1 := (hge a (by rw [← r1]; exact List.mem_append_right _ ha)).1 hb
        rw [r3 a ha] at h1; cases h1)]
    rfl
end Tr
theorem srt_filter {l : List Pr} (h : Srt l) (f : Pr → Bool) : Srt (l.filter f) := List.Pairwise.filter _ h
theorem del_srt {k : Key} {l : List Pr} (h : Srt l) : Srt (delL k l) := srt_filter h _
theorem drop_srt {p : Key} {l : List Pr} (h : Srt l) : Srt (dropL p l) := srt_filter h _
/-- what begins with a text stands side by side -/
theorem under_run {p : Key} {l : List Pr} (h : Srt l) : underL p l = (l.drop (rankL p l)).takeWhile (fun q => begins p q.1) := by
  induction l with
  | nil => rfl
  | cons a l ih =>
    have h0 := List.pairwise_cons.1 h
    unfold underL rankL
    simp only [List.filter_cons]
    cases hlt : lt a.1 p with
    | true =>
      have hb : begins p a.1 = false := by
        cases hb : begins p a.1 with
        | false => rfl
        | true => have := begins_ge hb; rw [hlt] at this; cases this
      rw [hb]
      simp only [Bool.false_eq_true, if_false, if_true, List.length_cons, List.drop_succ_cons]
      exact ih h0.2
    | false =>
      have hall : ∀ b ∈ l, lt b.1 p = false := fun b hb => by
        rw [Bool.eq_false_iff]
        intro h2
        have := lt_trans (h0.1 b hb) h2
        rw [hlt] at this; cases this
      have hr : (l.filter fun q => lt q.1 p).length = 0 := by
        rw [(List.filter_eq_nil_iff (l := l)).2 (fun b hb => by rw [hall b hb]; decide)]; rfl
      simp only [Bool.false_eq_true, if_false, hr, List.drop_zero, List.takeWhile_cons]
      have ih' := ih h0.2
      unfold underL rankL at ih'
      rw [hr, List.drop_zero] at ih'
      cases hb : begins p a.1 with
      | true => simp only [if_true]; rw [ih']
      | false =>
        simp only [Bool.false_eq_true, if_false]
        rw [List.filter_eq_nil_iff]
        intro b hb2 hb3
        have := begins_mono hlt (h0.1 b hb2) hb3
        rw [hb] at this; cases this
/-- two lists in order are the same if they are equally long and all of one is in the other -/
theorem srt_ext : ∀ {l m : List Pr}, Srt l → Srt m → l.length = m.length → (∀ a ∈ l, a ∈ m) → l = m
  | [], [], _, _, _, _ => rfl
  | [], _ :: _, _, _, h, _ => by simp at h
  | _ :: _, [], _, _, h, _ => by simp at h
  | a :: l, b :: m, hl, hm, hlen, hsub => by
    have hl0 := List.pairwise_cons.1 hl
    have hm0 := List.pairwise_cons.1 hm
    -- b is in a :: l too: by counting
    have hnd : ∀ {l : List Pr}, Srt l → l.Nodup := fun h => List.Pairwise.imp (fun h e => lt_ne h (congrArg Prod.fst e)) h
    have hlen2 : l.length = m.length := by simpa using hlen
    by_cases e : a = b
    · subst e
      rw [srt_ext hl0.2 hm0.2 hlen2 fun x hx => by
        rcases List.mem_cons.1 (hsub x (List.mem_cons_of_mem _ hx)) with rfl | h
        · have := hl0.1 _ hx; rw [lt_irr] at this; cases this
        · exact h]
    · -- all of a :: l lies in m, which is shorter
      exfalso
      have ha : a ∈ m := by
        rcases List.mem_cons.1 (hsub a (by simp)) with h | h
        · exact absurd h e
        · exact h
      have hsub2 : ∀ x ∈ a :: l, x ∈ m := by
        intro x hx
        rcases List.mem_cons.1 (hsub x hx) with rfl | h
        · exfalso
          have h1 := hm0.1 a ha
          rcases List.mem_cons.1 hx with h2 | h2
          · exact e h2.symm
          · have := lt_trans h1 (hl0.1 _ h2); rw [lt_irr] at this; cases this
        · exact h
      have := (List.Nodup.length_le_of_subset (hnd hl) hsub2 : (a :: l).length ≤ m.length)
      simp at this; omega
end Go.Proofs.YtbaedepmogkkeaaGreat.Tre
