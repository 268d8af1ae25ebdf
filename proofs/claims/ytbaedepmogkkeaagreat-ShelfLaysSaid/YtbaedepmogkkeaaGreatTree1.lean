/- tree: texts in order, lists of pairs in order, and trees over them: plain. No program is in sight. No conditions. -/
import Derived.Test.YtbaedepmogkkeaaGreatMe
namespace Go.Proofs.YtbaedepmogkkeaaGreat.Tre
open Go
set_option linter.unusedVariables false
set_option linter.unusedSimpArgs false

abbrev Key := List UInt8
abbrev Pr := Key × Key
def lt (a b : Key) : Bool := Op.bytesLess a b

/-! ### the order of texts -/
theorem lt_nil (x : Key) : lt x [] = false := by cases x <;> rfl
theorem lt_nil_cons (b : UInt8) (y : Key) : lt [] (b :: y) = true := rfl
theorem lt_cons (a b : UInt8) (x y : Key) : lt (a :: x) (b :: y) = true ↔ a.toNat < b.toNat ∨ a = b ∧ lt x y = true := by
  show (decide (a < b) || (a == b && Op.bytesLess x y)) = true ↔ _
  rw [Bool.or_eq_true, Bool.and_eq_true, decide_eq_true_iff, beq_iff_eq, UInt8.lt_iff_toNat_lt]
  rfl
theorem lt_irr : ∀ x : Key, lt x x = false
  | [] => rfl
  | a :: x => by
    rw [Bool.eq_false_iff]
    intro h
    rcases (lt_cons a a x x).1 h with h | ⟨_, h⟩
    · omega
    · rw [lt_irr x] at h; cases h
theorem lt_trans : ∀ {x y z : Key}, lt x y = true → lt y z = true → lt x z = true
  | _, [], _, h1, _ => by rw [lt_nil] at h1; cases h1
  | _, _ :: _, [], _, h2 => by rw [lt_nil] at h2; cases h2
  | [], _ :: _, c :: z, _, _ => lt_nil_cons c z
  | a :: x, b :: y, c :: z, h1, h2 => by
    rw [lt_cons] at h1 h2 ⊢
    rcases h1 with h1 | ⟨rfl, h1⟩
    · rcases h2 with h2 | ⟨rfl, h2⟩
      · left; omega
      · left; exact h1
    · rcases h2 with h2 | ⟨rfl, h2⟩
      · left; exact h2
      · right; exact ⟨rfl, lt_trans h1 h2⟩
theorem lt_asymm {x y : Key} (h : lt x y = true) : lt y x = false := by
  rw [Bool.eq_false_iff]
  intro h2
  have := lt_trans h h2
  rw [lt_irr] at this; cases this
theorem lt_tri : ∀ {x y : Key}, lt x y = false → lt y x = false → x = y
  | [], [], _, _ => rfl
  | [], b :: y, h, _ => by rw [lt_nil_cons] at h; cases h
  | a :: x, [], _, h => by rw [lt_nil_cons] at h; cases h
  | a :: x, b :: y, h1, h2 => by
    have n1 : ¬ (a.toNat < b.toNat ∨ a = b ∧ lt x y = true) := fun h => by rw [(lt_cons a b x y).2 h] at h1; cases h1
    have n2 : ¬ (b.toNat < a.toNat ∨ b = a ∧ lt y x = true) := fun h => by rw [(lt_cons b a y x).2 h] at h2; cases h2
    have e : a = b := UInt8.toNat_inj.1 (by omega)
    subst e
    have m1 : lt x y = false := by rw [Bool.eq_false_iff]; exact fun h => n1 (.inr ⟨rfl, h⟩)
    have m2 : lt y x = false := by rw [Bool.eq_false_iff]; exact fun h => n2 (.inr ⟨rfl, h⟩)
    rw [lt_tri m1 m2]
theorem lt_ne {x y : Key} (h : lt x y = true) : x ≠ y := fun e => by rw [e, lt_irr] at h; cases h
/-- not less, and less: less -/
theorem le_lt {x y z : Key} (h1 : lt y x = false) (h2 : lt y z = true) : lt x z = true := by
  cases h : lt x y with
  | true => exact lt_trans h h2
  | false => rw [lt_tri h h1]; exact h2
theorem lt_le {x y z : Key} (h1 : lt x y = true) (h2 : lt z y = false) : lt x z = true := by
  cases h : lt y z with
  | true => exact lt_trans h1 h
  | false => rw [← lt_tri h h2]; exact h1
theorem le_trans {x y z : Key} (h1 : lt y x = false) (h2 : lt z y = false) : lt z x = false := by
  rw [Bool.eq_false_iff]
  intro h
  have := lt_le h h1
  rw [this] at h2; cases h2

/-! ### lists of pairs -/
/-- in order, no key twice -/
def Srt (l : List Pr) : Prop := l.Pairwise fun a b => lt a.1 b.1 = true
def putL (k v : Key) : List Pr → List Pr
  | [] => [(k, v)]
  | (a, b) :: l => if lt a k = true then (a, b) :: putL k v l else if a = k then (k, v) :: l else (k, v) :: (a, b) :: l
def delL (k : Key) (l : List Pr) : List Pr := l.filter fun p => p.1 != k
def begins (p s : Key) : Bool := p.isPrefixOf s
def dropL (p : Key) (l : List Pr) : List Pr := l.filter fun q => !begins p q.1
def getL (k : Key) : List Pr → Option Key
  | [] => none
  | (a, b) :: l => if a = k then some b else getL k l
def rankL (k : Key) (l : List Pr) : Nat := (l.filter fun p => lt p.1 k).length
def underL (p : Key) (l : List Pr) : List Pr := l.filter fun q => begins p q.1
def bytesL : List Pr → Nat
  | [] => 0
  | (a, b) :: l => 4 + a.length + b.length + bytesL l
theorem bytesL_app (l m : List Pr) : bytesL (l ++ m) = bytesL l + bytesL m := by
  induction l with
  | nil => simp [bytesL]
  | cons p l ih => obtain ⟨a, b⟩ := p; simp only [List.cons_append, bytesL, ih]; omega
theorem Srt.app_left {l m : List Pr} (h : Srt (l ++ m)) : Srt l := (List.pairwise_append.1 h).1
theorem Srt.app_right {l m : List Pr} (h : Srt (l ++ m)) : Srt m := (List.pairwise_append.1 h).2.1
theorem Srt.app_lt {l m : List Pr} (h : Srt (l ++ m)) : ∀ a ∈ l, ∀ b ∈ m, lt a.1 b.1 = true := (List.pairwise_append.1 h).2.2
theorem putL_less {k v : Key} : ∀ {l : List Pr} (m : List Pr), (∀ a ∈ l, lt a.1 k = true) → putL k v (l ++ m) = l ++ putL k v m
  | [], m, _ => rfl
  | (a, b) :: l, m, h => by
    have h0 := h (a, b) (by simp)
    simp only [List.cons_append, putL]
    rw [if_pos h0, putL_less m fun x hx => h x (List.mem_cons_of_mem _ hx)]
theorem putL_more {k v : Key} : ∀ {l : List Pr}, (∀ a ∈ l, lt k a.1 = true) → putL k v l = (k, v) :: l
  | [], _ => rfl
  | (a, b) :: l, h => by
    have h0 : lt k a = true := h (a, b) (by simp)
    have h1 := lt_asymm h0
    have h2 := lt_ne h0
    unfold putL
    rw [if_neg (by rw [h1]; decide), if_neg (fun e => h2 e.symm)]
theorem putL_app {k v a b : Key} : ∀ (l m : List Pr), lt k a = true → putL k v (l ++ (a, b) :: m) = putL k v l ++ (a, b) :: m
  | [], m, h => by
    simp only [List.nil_append, putL]
    rw [if_neg (by rw [lt_asymm h]; decide), if_neg (fun e => lt_ne h e.symm)]
    rfl
  | (c, d) :: l, m, h => by
    simp only [putL, List.cons_append]
    split
    · rw [List.cons_append, putL_app l m h]
    · split <;> rfl
theorem putL_same {k v b : Key} {l : List Pr} : putL k v ((k, b) :: l) = (k, v) :: l := by
  unfold putL
  rw [if_neg (by rw [lt_irr]; decide), if_pos rfl]
theorem getL_none {k : Key} : ∀ {l : List Pr}, (∀ a ∈ l, a.1 ≠ k) → getL k l = none
  | [], _ => rfl
  | (a, b) :: l, h => by
    unfold getL
    rw [if_neg (h (a, b) (by simp)), getL_none fun x hx => h x (List.mem_cons_of_mem _ hx)]
theorem getL_app {k : Key} : ∀ {l : List Pr} (m : List Pr), (∀ a ∈ l, a.1 ≠ k) → getL k (l ++ m) = getL k m
  | [], _, _ => rfl
  | (a, b) :: l, m, h => by
    simp only [List.cons_append, getL]
    rw [if_neg (h (a, b) (by simp)), getL_app m fun x hx => h x (List.mem_cons_of_mem _ hx)]
theorem getL_mem {k v : Key} : ∀ {l : List Pr}, getL k l = some v → (k, v) ∈ l
  | [], h => by cases h
  | (a, b) :: l, h => by
    unfold getL at h
    by_cases e : a = k
    · rw [if_pos e] at h; injection h with h; subst e h; simp
    · rw [if_neg e] at h; exact List.mem_cons_of_mem _ (getL_mem h)
theorem getL_of_mem {k v : Key} : ∀ {l : List Pr}, Srt l → (k, v) ∈ l → getL k l = some v
  | (a, b) :: l, hs, h => by
    unfold getL
    rcases List.mem_cons.1 h with e | h
    · injection e with e1 e2; subst e1 e2; rw [if_pos rfl]
    · have : lt a k = true := (List.pairwise_cons.1 hs).1 _ h
      rw [if_neg (lt_ne this)]
      exact getL_of_mem (List.pairwise_cons.1 hs).2 h
theorem getL_app2 {k v : Key} : ∀ {l : List Pr} (m : List Pr), getL k l = some v → getL k (l ++ m) = some v
  | (a, b) :: l, m, h => by
    simp only [List.cons_append, getL] at h ⊢
    by_cases e : a = k
    · rw [if_pos e] at h ⊢; exact h
    · rw [if_neg e] at h ⊢; exact getL_app2 m h

/-! ### trees -/
inductive Tr where
  | nil
  | node (l : Tr) (k v : Key) (r : Tr)
  deriving DecidableEq
namespace Tr
def toL : Tr → List Pr
  | nil => []
  | node l k v r => l.toL ++ (k, v) :: r.toL
/-- how high -/
def hh : Tr → Int
  | nil => 0
  | node l _ _ r => 1 + (if r.hh > l.hh then r.hh else l.hh)
/-- how many keys -/
def cn : Tr → Int
  | nil => 0
  | node l _ _ r => 1 + l.cn + r.cn
/-- how many bytes -/
def wt : Tr → Int
  | nil => 0
  | node l k v r => 4 + (k.length : Int) + (v.length : Int) + l.wt + r.wt
theorem hh_pos : ∀ t : Tr, 0 ≤ t.hh
  | nil => Int.le_refl 0
  | node l k v r => by
    have h1 := hh_pos l
    have h2 := hh_pos r
    simp only [hh]; split <;> omega
theorem hh_node {l r : Tr} {k v : Key} : 1 ≤ (node l k v r).hh := by
  have h1 := hh_pos l
  have h2 := hh_pos r
  simp only [hh]; split <;> omega
theorem cn_len : ∀ t : Tr, t.cn = (t.toL.length : Int)
  | nil => rfl
  | node l k v r => by simp only [cn, toL, List.length_append, List.length_cons, cn_len l, cn_len r]; omega
theorem wt_len : ∀ t : Tr, t.wt = (bytesL t.toL : Int)
  | nil => rfl
  | node l k v r => by simp only [wt, toL, bytesL_app, bytesL, wt_len l, wt_len r]; omega
theorem hh_le_cn : ∀ t : Tr, t.hh ≤ t.cn
  | nil => Int.le_refl 0
  | node l k v r => by
    have h1 := hh_le_cn l
    have h2 := hh_le_cn r
    have h3 := hh_pos l
    have h4 := hh_pos r
    simp only [hh, cn]; split <;> omega
theorem cn_pos (t : Tr) : 0 ≤ t.cn := by rw [cn_len]; omega
theorem wt_pos (t : Tr) : 0 ≤ t.wt := by rw [wt_len]; omega
def turnLeft : Tr → Tr
  | node l k v (node rl rk rv rr) => node (node l k v rl) rk rv rr
  | t => t
def turnRight : Tr → Tr
  | node (node ll lk lv lr) k v r => node ll lk lv (node lr k v r)
  | t => t
def left : Tr → Tr
  | node l _ _ _ => l
  | nil => nil
def right : Tr → Tr
  | node _ _ _ r => r
  | nil => nil
def level : Tr → Tr
  | nil => nil
  | node l k v r =>
    if l.hh - r.hh > 1 then (if l.left.hh < l.right.hh then turnRight (node (turnLeft l) k v r) else turnRight (node l k v r))
    else if l.hh - r.hh < -1 then (if r.right.hh < r.left.hh then turnLeft (node l k v (turnRight r)) else turnLeft (node l k v r))
    else node l k v r
theorem turnLeft_toL (t : Tr) : (turnLeft t).toL = t.toL := by
  unfold turnLeft
  split
  · simp [toL]
  · rfl
theorem turnRight_toL (t : Tr) : (turnRight t).toL = t.toL := by
  unfold turnRight
  split
  · simp [toL]
  · rfl
theorem level_toL (t : Tr) : (level t).toL = t.toL := by
  cases t with
  | nil => rfl
  | node l k v r =>
    simp only [level]
    split
    · split
      · rw [turnRight_toL]; simp only [toL, turnLeft_toL]
      · rw [turnRight_toL]
    · split
      · split
        · rw [turnLeft_toL]; simp only [toL, turnRight_toL]
        · rw [turnLeft_toL]
      · rfl
def sz : Tr → Nat
  | nil => 0
  | node l _ _ r => 1 + l.sz + r.sz
def join (l : Tr) (k v : Key) (r : Tr) : Tr :=
  match l, r with
  | nil, nil => node nil k v nil
  | nil, node rl rk rv rr => if (node rl rk rv rr).hh > 0 + 1 then level (node (join nil k v rl) rk rv rr) else node nil k v (node rl rk rv rr)
  | node ll lk lv lr, nil => if (node ll lk lv lr).hh > 0 + 1 then level (node ll lk lv (join lr k v nil)) else node (node ll lk lv lr) k v nil
  | node ll lk lv lr, node rl rk rv rr =>
    if (node ll lk lv lr).hh > (node rl rk rv rr).hh + 1 then level (node ll lk lv (join lr k v (node rl rk rv rr)))
    else if (node rl rk rv rr).hh > (node ll lk lv lr).hh + 1 then level (node (join (node ll lk lv lr) k v rl) rk rv rr)
    else node (node ll lk lv lr) k v (node rl rk rv rr)
  termination_by l.sz + r.sz
  decreasing_by all_goals simp [sz] <;> omega
theorem join_toL : ∀ (n : Nat) (l : Tr) (k v : Key) (r : Tr), l.sz + r.sz ≤ n → (join l k v r).toL = l.toL ++ (k, v) :: r.toL
  | n, l, k, v, r, h => by
    unfold join
    cases l with
    | nil =>
      cases r with
      | nil => rfl
      | node rl rk rv rr =>
        simp only
        split
        · cases n with
          | zero => simp [sz] at h
          | succ n => rw [level_toL]; simp only [toL]; rw [join_toL n nil k v rl (by simp [sz] at h ⊢; omega)]; simp [toL]
        · rfl
    | node ll lk lv lr =>
      cases r with
      | nil =>
        simp only
        split
        · cases n with
          | zero => simp [sz] at h
          | succ n => rw [level_toL]; simp only [toL]; rw [join_toL n lr k v nil (by simp [sz] at h ⊢; omega)]; simp [toL]
        · rfl
      | node rl rk rv rr =>
        simp only
        split
        · cases n with
          | zero => simp [sz] at h
          | succ n => rw [level_toL]; simp only [toL]; rw [join_toL n lr k v (node rl rk rv rr) (by simp [sz] at h ⊢; omega)]; simp [toL]
        · split
          · cases n with
            | zero => simp [sz] at h
            | succ n => rw [level_toL]; simp only [toL]; rw [join_toL n (node ll lk lv lr) k v rl (by simp [sz] at h ⊢; omega)]; simp [toL]
          · rfl
def put (key val : Key) : Tr → Tr
  | nil => node nil key val nil
  | node l k v r => if lt key k = true then level (node (put key val l) k v r) else if lt k key = true then level (node l k v (put key val r)) else node l key val r
def first : Tr → Key × Key × Tr
  | nil => ([], [], nil)
  | node nil k v r => (k, v, r)
  | node (node a b c d) k v r => ((first (node a b c d)).1, (first (node a b c d)).2.1, level (node (first (node a b c d)).2.2 k v r))
def both (l : Tr) : Tr → Tr
  | nil => l
  | node a b c d => join l (first (node a b c d)).1 (first (node a b c d)).2.1 (first (node a b c d)).2.2
def split (key : Key) : Tr → Tr × Tr
  | nil => (nil, nil)
  | node l k v r => if lt k key = true then (join l k v (split key r).1, (split key r).2) else ((split key l).1, join (split key l).2 k v r)
def get (key : Key) : Tr → Option Key
  | nil => none
  | node l k v r => if lt key k = true then get key l else if lt k key = true then get key r else some v
def rank (key : Key) : Tr → Int
  | nil => 0
  | node l k v r => if lt k key = true then 1 + l.cn + rank key r else rank key l
def at_ : Tr → Int → Option Pr
  | nil, _ => none
  | node l k v r, i => if i < l.cn then at_ l i else if i > l.cn then at_ r (i - (l.cn + 1)) else some (k, v)
theorem first_toL : ∀ (t : Tr), t ≠ nil → ((first t).1, (first t).2.1) :: (first t).2.2.toL = t.toL
  | nil, h => absurd rfl h
  | node nil k v r, _ => rfl
  | node (node a b c d) k v r, _ => by
    have ih := first_toL (node a b c d) (by simp)
    simp only [first]
    rw [level_toL]
    rw [toL, ← List.cons_append, ih]
    rfl
theorem both_toL (l r : Tr) : (both l r).toL = l.toL ++ r.toL := by
  cases r with
  | nil => simp [both, toL]
  | node a b c d =>
    rw [← first_toL (node a b c d) (by simp)]
    unfold both
    rw [join_toL _ _ _ _ _ (Nat.le_refl _)]
theorem put_toL {key val : Key} : ∀ {t : Tr}, Srt t.toL → (put key val t).toL = putL key val t.toL
  | nil, _ => rfl
  | node l k v r, h => by
    have h0 : Srt (l.toL ++ (k, v) :: r.toL) := h
    have hl := h0.app_left
    have hr := (List.pairwise_cons.1 h0.app_right)
    have hlk : ∀ a ∈ l.toL, lt a.1 k = true := fun a ha => h0.app_lt a ha (k, v) (by simp)
    have hkr : ∀ a ∈ r.toL, lt k a.1 = true := fun a ha => hr.1 a ha
    have hlr : ∀ a ∈ l.toL, ∀ b ∈ r.toL, lt a.1 b.1 = true := fun a ha b hb => lt_trans (hlk a ha) (hkr b hb)
    unfold put
    split
    · rename_i h1
      rw [level_toL]
      simp only [toL]
      rw [put_toL hl]
      rw [putL_app _ _ h1]
    · rename_i h1
      split
      · rename_i h2
        rw [level_toL]
        simp only [toL]
        rw [put_toL hr.2, putL_less _ (fun a ha => lt_trans (hlk a ha) h2)]
        simp only [putL]
        rw [if_pos h2]
      · rename_i h2
        have e : key = k := lt_tri (by simpa using h1) (by simpa using h2)
        subst e
        simp only [toL]
        rw [putL_less _ hlk, putL_same]
theorem split_toL {key : Key} : ∀ {t : Tr}, Srt t.toL → (split key t).1.toL ++ (split key t).2.toL = t.toL ∧ (∀ a ∈ (split key t).1.toL, lt a.1 key = true) ∧ (∀ a ∈ (split key t).2.toL, lt a.1 key = false)
  | nil, _ => ⟨rfl, (fun a h => by cases h), (fun a h => by cases h)⟩
  | node l k v r, h => by
    have h0 : Srt (l.toL ++ (k, v) :: r.toL) := h
    have hl := h0.app_left
    have hr := (List.pairwise_cons.1 h0.app_right)
    have hlk : ∀ a ∈ l.toL, lt a.1 k = true := fun a ha => h0.app_lt a ha (k, v) (by simp)
    have hkr : ∀ a ∈ r.toL, lt k a.1 = true := fun a ha => hr.1 a ha
    unfold split
    split
    · rename_i h1
      obtain ⟨i1, i2, i3⟩ := split_toL (key := key) hr.2
      simp only
      rw [join_toL _ _ _ _ _ (Nat.le_refl _)]
      refine ⟨by rw [List.append_assoc, List.cons_append, i1]; rfl, fun a ha => ?_, i3⟩
      rcases List.mem_append.1 ha with ha | ha
      · exact lt_trans (hlk a ha) h1
      · rcases List.mem_cons.1 ha with rfl | ha
        · exact h1
        · exact i2 a ha
    · rename_i h1
      obtain ⟨i1, i2, i3⟩ := split_toL (key := key) hl
      simp only
      rw [join_toL _ _ _ _ _ (Nat.le_refl _)]
      refine ⟨by rw [← List.append_assoc, i1]; rfl, i2, fun a ha => ?_⟩
      have h1' : lt k key = false := by simpa using h1
      rcases List.mem_append.1 ha with ha | ha
      · exact i3 a ha
      · rcases List.mem_cons.1 ha with rfl | ha
        · exact h1'
        · exact le_trans h1' (lt_asymm (hkr a ha))
theorem get_toL {key : Key} : ∀ {t : Tr}, Srt t.toL → get key t = getL key t.toL
  | nil, _ => rfl
  | node l k v r, h => by
    have h0 : Srt (l.toL ++ (k, v) :: r.toL) := h
    have hl := h0.app_left
    have hr := (List.pairwise_cons.1 h0.app_right)
    have hlk : ∀ a ∈ l.toL, lt a.1 k = true := fun a ha => h0.app_lt a ha (k, v) (by simp)
    have hkr : ∀ a ∈ r.toL, lt k a.1 = true := fun a ha => hr.1 a ha
    unfold get
    split
    · rename_i h1
      rw [get_toL hl]
      simp only [toL]
      cases hg : getL key l.toL with
      | some x => rw [getL_app2 _ hg]
      | none =>
        have hn : ∀ a ∈ l.toL, a.1 ≠ key := fun a ha e => by
          have := getL_of_mem (k := a.1) (v := a.2) hl ha
          rw [e, hg] at this; cases this
        rw [getL_app _ hn]
        unfold getL
        rw [if_neg (fun e => lt_ne h1 e.symm)]
        exact (getL_none fun a ha e => lt_ne (lt_trans h1 (hkr a ha)) e.symm).symm
    · rename_i h1
      split
      · rename_i h2
        rw [get_toL hr.2]
        simp only [toL]
        rw [getL_app _ (fun a ha e => lt_ne (lt_trans (hlk a ha) h2) e)]
        conv => rhs; unfold getL
        rw [if_neg (lt_ne h2)]
      · rename_i h2
        have e : key = k := lt_tri (by simpa using h1) (by simpa using h2)
        subst e
        simp only [toL]
        rw [getL_app _ (fun a ha e => lt_ne (hlk a ha) e)]
        unfold getL
        rw [if_pos rfl]
theorem rank_toL {key : Key} : ∀ {t : Tr}, Srt t.toL → rank key t = (rankL key t.toL : Int)
  | nil, _ => rfl
  | node l k v r, h => by
    have h0 : Srt (l.toL ++ (k, v) :: r.toL) := h
    have hl := h0.app_left
    have hr := (List.pairwise_cons.1 h0.app_right)
    have hlk : ∀ a ∈ l.toL, lt a.1 k = true := fun a ha => h0.app_lt a ha (k, v) (by simp)
    have hkr : ∀ a ∈ r.toL, lt k a.1 = true := fun a ha => hr.1 a ha
    unfold rank rankL
    simp only [toL, List.filter_append, List.length_append, List.filter_cons]
    split
    · rename_i h1
      rw [rank_toL hr.2, cn_len, List.filter_eq_self.2 (fun a ha => lt_trans (hlk a ha) h1)]
      unfold rankL
      simp; omega
    · rename_i h1
      rw [rank_toL hl]
      have h1' : lt k key = false := by simpa using h1
      rw [(List.filter_eq_nil_iff (l := r.toL)).2 (fun a ha => by rw [le_trans h1' (lt_asymm (hkr a ha))]; decide)]
      unfold rankL
      simp
theorem at_toL : ∀ (t : Tr) (i : Int), 0 ≤ i → at_ t i = t.toL[i.toNat]?
  | nil, i, _ => rfl
  | node l k v r, i, h0 => by
    have hc := cn_len l
    unfold at_
    simp only [toL]
    split
    · rw [at_toL l i h0, List.getElem?_append_left (by omega)]
    · split
      · rw [at_toL r _ (by omega), List.getElem?_append_right (by omega)]
        have e : i.toNat - l.toL.length = (i - (l.cn + 1)).toNat + 1 := by omega
        rw [e, List.getElem?_cons_succ]
      · rw [List.getElem?_append_right (by omega)]
        have e : i.toNat - l.toL.length = 0 := by omega
        rw [e]; rfl
theorem put_srt {key val : Key} : ∀ {l : List Pr}, Srt l → Srt (putL key val l)
  | [], _ => by simp [putL, Srt]
  | (a, b) :: l, h => by
    have h0 := List.pairwise_cons.1 h
    unfold putL
    split
    · rename_i h1
      refine List.pairwise_cons.2 ⟨fun x hx => ?_, put_srt h0.2⟩
      have : x = (key, val) ∨ x ∈ l := by
        clear h0 h h1
        induction l with
        | nil => simp [putL] at hx; exact .inl hx
        | cons q l ih =>
          obtain ⟨c, d⟩ := q
          unfold putL at hx
          split at hx
          · rcases List.mem_cons.1 hx with rfl | hx
            · right; simp
            · rcases ih hx with h | h
              · exact .inl h
              · exact .inr (List.mem_cons_of_mem _ h)
          · split at hx
            · rcases List.mem_cons.1 hx with rfl | hx
              · exact .inl rfl
              · exact .inr (List.mem_cons_of_mem _ hx)
            · rcases List.mem_cons.1 hx with rfl | hx
              · exact .inl rfl
              · exact .inr hx
      rcases this with rfl | hx
      · exact h1
      · exact h0.1 x hx
    · rename_i h1
      split
      · rename_i h2
        subst h2
        exact List.pairwise_cons.2 ⟨h0.1, h0.2⟩
      · rename_i h2
        have h3 : lt key a = true := by
          cases h4 : lt key a with
          | true => rfl
          | false => exact absurd (lt_tri (by simpa using h1) h4) h2
        refine List.pairwise_cons.2 ⟨fun x hx => ?_, h⟩
        rcases List.mem_cons.1 hx with rfl | hx
        · exact h3
        · exact lt_trans h3 (h0.1 x hx)
end Tr
end Go.Proofs.YtbaedepmogkkeaaGreat.Tre
