/- What the claim stands on, Su15: contracts of functions and plain facts. No conditions. -/
import Derived.Test.YtbaedepmogkkeaaGreatSu14
namespace Go.Proofs.YtbaedepmogkkeaaGreat.Tre
open Go
set_option linter.unusedVariables false
set_option linter.unusedSimpArgs false
abbrev Key := List UInt8
abbrev Pr := Key × Key
def lt (a b : Key) : Bool := Op.bytesLess a b
/-! ### the order of texts -/
theorem lt_nil (x : Key) : lt x [] = false := by cases x <;> rfl
theorem lt_nil_cons (b : UInt8) (y : Key) : lt [] (b :: y) = true := rfl
theorem lt_cons (a b : UInt8) (x y : Key) : lt (a :: x) (b :: y) = true ↔ a.toNat < b.toNat ∨ a = b ∧ lt x y = true := by
 show (decide (a < b) || (a == b && Op.bytesLess x y)) = true ↔ _
 rw [Bool.or_eq_true, Bool.and_eq_true, decide_eq_true_iff, beq_iff_eq, UInt8.lt_iff_toNat_lt]
 rfl
theorem lt_irr : ∀ x : Key, lt x x = false
 | [] => rfl
 | a :: x => by
  rw [Bool.eq_false_iff]
  intro h
  rcases (lt_cons a a x x).1 h with h | ⟨_, h⟩
  ·omega
  ·rw [lt_irr x] at h; cases h
theorem lt_trans : ∀ {x y z : Key}, lt x y = true → lt y z = true → lt x z = true
 | _, [], _, h1, _ => by rw [lt_nil] at h1; cases h1
 | _, _ :: _, [], _, h2 => by rw [lt_nil] at h2; cases h2
 | [], _ :: _, c :: z, _, _ => lt_nil_cons c z
 | a :: x, b :: y, c :: z, h1, h2 => by
  rw [lt_cons] at h1 h2 ⊢
  rcases h1 with h1 | ⟨rfl, h1⟩
  ·rcases h2 with h2 | ⟨rfl, h2⟩
   ·left; omega
   ·left; exact h1
  ·rcases h2 with h2 | ⟨rfl, h2⟩
   ·left; exact h2
   ·right; exact ⟨rfl, lt_trans h1 h2⟩
theorem lt_asymm {x y : Key} (h : lt x y = true) : lt y x = false := by
 rw [Bool.eq_false_iff]
 intro h2
 have := lt_trans h h2
 rw [lt_irr] at this; cases this
theorem lt_tri : ∀ {x y : Key}, lt x y = false → lt y x = false → x = y
 | [], [], _, _ => rfl
 | [], b :: y, h, _ => by rw [lt_nil_cons] at h; cases h
 | a :: x, [], _, h => by rw [lt_nil_cons] at h; cases h
 | a :: x, b :: y, h1, h2 => by
  have n1 : ¬ (a.toNat < b.toNat ∨ a = b ∧ lt x y = true) := fun h => by rw [(lt_cons a b x y).2 h] at h1; cases h1
  have n2 : ¬ (b.toNat < a.toNat ∨ b = a ∧ lt y x = true) := fun h => by rw [(lt_cons b a y x).2 h] at h2; cases h2
  have e : a = b := UInt8.toNat_inj.1 (by omega)
  subst e
  have m1 : lt x y = false := by rw [Bool.eq_false_iff]; exact fun h => n1 (.inr ⟨rfl, h⟩)
  have m2 : lt y x = false := by rw [Bool.eq_false_iff]; exact fun h => n2 (.inr ⟨rfl, h⟩)
  rw [lt_tri m1 m2]
theorem lt_ne {x y : Key} (h : lt x y = true) : x ≠ y := fun e => by rw [e, lt_irr] at h; cases h
theorem lt_le {x y z : Key} (h1 : lt x y = true) (h2 : lt z y = false) : lt x z = true := by
 cases h : lt y z with
 | true => exact lt_trans h1 h
 | false => rw [← lt_tri h h2]; exact h1
theorem le_trans {x y z : Key} (h1 : lt y x = false) (h2 : lt z y = false) : lt z x = false := by
 rw [Bool.eq_false_iff]
 intro h
 have := lt_le h h1
 rw [this] at h2; cases h2
/-! ### lists of pairs -/
def Srt (l : List Pr) : Prop := l.Pairwise fun a b => lt a.1 b.1 = true
def putL (k v : Key) : List Pr → List Pr
 | [] => [(k, v)]
 | (a, b) :: l => if lt a k = true then (a, b) :: putL k v l else if a = k then (k, v) :: l else (k, v) :: (a, b) :: l
def delL (k : Key) (l : List Pr) : List Pr := l.filter fun p => p.1 != k
def begins (p s : Key) : Bool := p.isPrefixOf s
def dropL (p : Key) (l : List Pr) : List Pr := l.filter fun q => !begins p q.1
def getL (k : Key) : List Pr → Option Key
 | [] => none
 | (a, b) :: l => if a = k then some b else getL k l
def rankL (k : Key) (l : List Pr) : Nat := (l.filter fun p => lt p.1 k).length
def underL (p : Key) (l : List Pr) : List Pr := l.filter fun q => begins p q.1
def bytesL : List Pr → Nat
 | [] => 0
 | (a, b) :: l => 4 + a.length + b.length + bytesL l
theorem bytesL_app (l m : List Pr) : bytesL (l ++ m) = bytesL l + bytesL m := by
 induction l with
 | nil => simp [bytesL]
 | cons p l ih => obtain ⟨a, b⟩ := p; simp only [List.cons_append, bytesL, ih]; omega
theorem Srt.app_left {l m : List Pr} (h : Srt (l ++ m)) : Srt l := (List.pairwise_append.1 h).1
theorem Srt.app_right {l m : List Pr} (h : Srt (l ++ m)) : Srt m := (List.pairwise_append.1 h).2.1
theorem Srt.app_lt {l m : List Pr} (h : Srt (l ++ m)) : ∀ a ∈ l, ∀ b ∈ m, lt a.1 b.1 = true := (List.pairwise_append.1 h).2.2
theorem putL_less {k v : Key} : ∀ {l : List Pr} (m : List Pr), (∀ a ∈ l, lt a.1 k = true) → putL k v (l ++ m) = l ++ putL k v m
 | [], m, _ => rfl
 | (a, b) :: l, m, h => by
  have h0 := h (a, b) (by simp)
  simp only [List.cons_append, putL]
  rw [if_pos h0, putL_less m fun x hx => h x (List.mem_cons_of_mem _ hx)]
theorem putL_app {k v a b : Key} : ∀ (l m : List Pr), lt k a = true → putL k v (l ++ (a, b) :: m) = putL k v l ++ (a, b) :: m
 | [], m, h => by
  simp only [List.nil_append, putL]
  rw [if_neg (by rw [lt_asymm h]; decide), if_neg (fun e => lt_ne h e.symm)]
  rfl
 | (c, d) :: l, m, h => by
  simp only [putL, List.cons_append]
  split
  ·rw [List.cons_append, putL_app l m h]
  ·split <;> rfl
theorem putL_same {k v b : Key} {l : List Pr} : putL k v ((k, b) :: l) = (k, v) :: l := by
 unfold putL
 rw [if_neg (by rw [lt_irr]; decide), if_pos rfl]
theorem getL_none {k : Key} : ∀ {l : List Pr}, (∀ a ∈ l, a.1 ≠ k) → getL k l = none
 | [], _ => rfl
 | (a, b) :: l, h => by
  unfold getL
  rw [if_neg (h (a, b) (by simp)), getL_none fun x hx => h x (List.mem_cons_of_mem _ hx)]
theorem getL_app {k : Key} : ∀ {l : List Pr} (m : List Pr), (∀ a ∈ l, a.1 ≠ k) → getL k (l ++ m) = getL k m
 | [], _, _ => rfl
 | (a, b) :: l, m, h => by
  simp only [List.cons_append, getL]
  rw [if_neg (h (a, b) (by simp)), getL_app m fun x hx => h x (List.mem_cons_of_mem _ hx)]
theorem getL_mem {k v : Key} : ∀ {l : List Pr}, getL k l = some v → (k, v) ∈ l
 | [], h => by cases h
 | (a, b) :: l, h => by
  unfold getL at h
  by_cases e : a = k
  ·rw [if_pos e] at h; injection h with h; subst e h; simp
  ·rw [if_neg e] at h; exact List.mem_cons_of_mem _ (getL_mem h)
theorem getL_of_mem {k v : Key} : ∀ {l : List Pr}, Srt l → (k, v) ∈ l → getL k l = some v
 | (a, b) :: l, hs, h => by
  unfold getL
  rcases List.mem_cons.1 h with e | h
  ·injection e with e1 e2; subst e1 e2; rw [if_pos rfl]
  ·have : lt a k = true := (List.pairwise_cons.1 hs).1 _ h
   rw [if_neg (lt_ne this)]
   exact getL_of_mem (List.pairwise_cons.1 hs).2 h
theorem getL_app2 {k v : Key} : ∀ {l : List Pr} (m : List Pr), getL k l = some v → getL k (l ++ m) = some v
 | (a, b) :: l, m, h => by
  simp only [List.cons_append, getL] at h ⊢
  by_cases e : a = k
  ·rw [if_pos e] at h ⊢; exact h
  ·rw [if_neg e] at h ⊢; exact getL_app2 m h
/-! ### trees -/
inductive Tr where
 | nil
 | node (l : Tr) (k v : Key) (r : Tr)
 deriving DecidableEq
namespace Tr
def toL : Tr → List Pr
 | nil => []
 | node l k v r => l.toL ++ (k, v) :: r.toL
def hh : Tr → Int
 | nil => 0
 | node l _ _ r => 1 + (if r.hh > l.hh then r.hh else l.hh)
def cn : Tr → Int
 | nil => 0
 | node l _ _ r => 1 + l.cn + r.cn
def wt : Tr → Int
 | nil => 0
 | node l k v r => 4 + (k.length : Int) + (v.length : Int) + l.wt + r.wt
theorem hh_pos : ∀ t : Tr, 0 ≤ t.hh
 | nil => Int.le_refl 0
 | node l k v r => by
  have h1 := hh_pos l
  have h2 := hh_pos r
  simp only [hh]; split <;> omega
theorem cn_len : ∀ t : Tr, t.cn = (t.toL.length : Int)
 | nil => rfl
 | node l k v r => by simp only [cn, toL, List.length_append, List.length_cons, cn_len l, cn_len r]; omega
theorem wt_len : ∀ t : Tr, t.wt = (bytesL t.toL : Int)
 | nil => rfl
 | node l k v r => by simp only [wt, toL, bytesL_app, bytesL, wt_len l, wt_len r]; omega
theorem hh_le_cn : ∀ t : Tr, t.hh ≤ t.cn
 | nil => Int.le_refl 0
 | node l k v r => by
  have h1 := hh_le_cn l
  have h2 := hh_le_cn r
  have h3 := hh_pos l
  have h4 := hh_pos r
  simp only [hh, cn]; split <;> omega
theorem cn_pos (t : Tr) : 0 ≤ t.cn := by rw [cn_len]; omega
theorem wt_pos (t : Tr) : 0 ≤ t.wt := by rw [wt_len]; omega
def turnLeft : Tr → Tr
 | node l k v (node rl rk rv rr) => node (node l k v rl) rk rv rr
 | t => t
def turnRight : Tr → Tr
 | node (node ll lk lv lr) k v r => node ll lk lv (node lr k v r)
 | t => t
def left : Tr → Tr
 | node l _ _ _ => l
 | nil => nil
def right : Tr → Tr
 | node _ _ _ r => r
 | nil => nil
def level : Tr → Tr
 | nil => nil
 | node l k v r =>
  if l.hh - r.hh > 1 then (if l.left.hh < l.right.hh then turnRight (node (turnLeft l) k v r) else turnRight (node l k v r))
  else if l.hh - r.hh < -1 then (if r.right.hh < r.left.hh then turnLeft (node l k v (turnRight r)) else turnLeft (node l k v r))
  else node l k v r
theorem turnLeft_toL (t : Tr) : (turnLeft t).toL = t.toL := by
 unfold turnLeft
 split
 ·simp [toL]
 ·rfl
theorem turnRight_toL (t : Tr) : (turnRight t).toL = t.toL := by
 unfold turnRight
 split
 ·simp [toL]
 ·rfl
theorem level_toL (t : Tr) : (level t).toL = t.toL := by
 cases t with
 | nil => rfl
 | node l k v r =>
  simp only [level]
  split
  ·split
   ·rw [turnRight_toL]; simp only [toL, turnLeft_toL]
   ·rw [turnRight_toL]
  ·split
   ·split
    ·rw [turnLeft_toL]; simp only [toL, turnRight_toL]
    ·rw [turnLeft_toL]
   ·rfl
def sz : Tr → Nat
 | nil => 0
 | node l _ _ r => 1 + l.sz + r.sz
def join (l : Tr) (k v : Key) (r : Tr) : Tr :=
 match l, r with
 | nil, nil => node nil k v nil
 | nil, node rl rk rv rr => if (node rl rk rv rr).hh > 0 + 1 then level (node (join nil k v rl) rk rv rr) else node nil k v (node rl rk rv rr)
 | node ll lk lv lr, nil => if (node ll lk lv lr).hh > 0 + 1 then level (node ll lk lv (join lr k v nil)) else node (node ll lk lv lr) k v nil
 | node ll lk lv lr, node rl rk rv rr =>
  if (node ll lk lv lr).hh > (node rl rk rv rr).hh + 1 then level (node ll lk lv (join lr k v (node rl rk rv rr)))
  else if (node rl rk rv rr).hh > (node ll lk lv lr).hh + 1 then level (node (join (node ll lk lv lr) k v rl) rk rv rr)
  else node (node ll lk lv lr) k v (node rl rk rv rr)
 termination_by l.sz + r.sz
 decreasing_by all_goals simp [sz] <;> omega
theorem join_toL : ∀ (n : Nat) (l : Tr) (k v : Key) (r : Tr), l.sz + r.sz ≤ n → (join l k v r).toL = l.toL ++ (k, v) :: r.toL
 | n, l, k, v, r, h => by
  unfold join
  cases l with
  | nil =>
   cases r with
   | nil => rfl
   | node rl rk rv rr =>
    simp only
    split
    ·cases n with
     | zero => simp [sz] at h
     | succ n => rw [level_toL]; simp only [toL]; rw [join_toL n nil k v rl (by simp [sz] at h ⊢; omega)]; simp [toL]
    ·rfl
  | node ll lk lv lr =>
   cases r with
   | nil =>
    simp only
    split
    ·cases n with
     | zero => simp [sz] at h
     | succ n => rw [level_toL]; simp only [toL]; rw [join_toL n lr k v nil (by simp [sz] at h ⊢; omega)]; simp [toL]
    ·rfl
   | node rl rk rv rr =>
    simp only
    split
    ·cases n with
     | zero => simp [sz] at h
     | succ n => rw [level_toL]; simp only [toL]; rw [join_toL n lr k v (node rl rk rv rr) (by simp [sz] at h ⊢; omega)]; simp [toL]
    ·split
     ·cases n with
      | zero => simp [sz] at h
      | succ n => rw [level_toL]; simp only [toL]; rw [join_toL n (node ll lk lv lr) k v rl (by simp [sz] at h ⊢; omega)]; simp [toL]
     ·rfl
def put (key val : Key) : Tr → Tr
 | nil => node nil key val nil
 | node l k v r => if lt key k = true then level (node (put key val l) k v r) else if lt k key = true then level (node l k v (put key val r)) else node l key val r
def first : Tr → Key × Key × Tr
 | nil => ([], [], nil)
 | node nil k v r => (k, v, r)
 | node (node a b c d) k v r => ((first (node a b c d)).1, (first (node a b c d)).2.1, level (node (first (node a b c d)).2.2 k v r))
def both (l : Tr) : Tr → Tr
 | nil => l
 | node a b c d => join l (first (node a b c d)).1 (first (node a b c d)).2.1 (first (node a b c d)).2.2
def split (key : Key) : Tr → Tr × Tr
 | nil => (nil, nil)
 | node l k v r => if lt k key = true then (join l k v (split key r).1, (split key r).2) else ((split key l).1, join (split key l).2 k v r)
def get (key : Key) : Tr → Option Key
 | nil => none
 | node l k v r => if lt key k = true then get key l else if lt k key = true then get key r else some v
def rank (key : Key) : Tr → Int
 | nil => 0
 | node l k v r => if lt k key = true then 1 + l.cn + rank key r else rank key l
def at_ : Tr → Int → Option Pr
 | nil, _ => none
 | node l k v r, i => if i < l.cn then at_ l i else if i > l.cn then at_ r (i - (l.cn + 1)) else some (k, v)
theorem first_toL : ∀ (t : Tr), t ≠ nil → ((first t).1, (first t).2.1) :: (first t).2.2.toL = t.toL
 | nil, h => absurd rfl h
 | node nil k v r, _ => rfl
 | node (node a b c d) k v r, _ => by
  have ih := first_toL (node a b c d) (by simp)
  simp only [first]
  rw [level_toL]
  rw [toL, ← List.cons_append, ih]
  rfl
theorem both_toL (l r : Tr) : (both l r).toL = l.toL ++ r.toL := by
 cases r with
 | nil => simp [both, toL]
 | node a b c d =>
  rw [← first_toL (node a b c d) (by simp)]
  unfold both
  rw [join_toL _ _ _ _ _ (Nat.le_refl _)]
theorem put_toL {key val : Key} : ∀ {t : Tr}, Srt t.toL → (put key val t).toL = putL key val t.toL
 | nil, _ => rfl
 | node l k v r, h => by
  have h0 : Srt (l.toL ++ (k, v) :: r.toL) := h
  have hl := h0.app_left
  have hr := (List.pairwise_cons.1 h0.app_right)
  have hlk : ∀ a ∈ l.toL, lt a.1 k = true := fun a ha => h0.app_lt a ha (k, v) (by simp)
  have hkr : ∀ a ∈ r.toL, lt k a.1 = true := fun a ha => hr.1 a ha
  have hlr : ∀ a ∈ l.toL, ∀ b ∈ r.toL, lt a.1 b.1 = true := fun a ha b hb => lt_trans (hlk a ha) (hkr b hb)
  unfold put
  split
  ·rename_i h1
   rw [level_toL]
   simp only [toL]
   rw [put_toL hl]
   rw [putL_app _ _ h1]
  ·rename_i h1
   split
   ·rename_i h2
    rw [level_toL]
    simp only [toL]
    rw [put_toL hr.2, putL_less _ (fun a ha => lt_trans (hlk a ha) h2)]
    simp only [putL]
    rw [if_pos h2]
   ·rename_i h2
    have e : key = k := lt_tri (by simpa using h1) (by simpa using h2)
    subst e
    simp only [toL]
    rw [putL_less _ hlk, putL_same]
theorem split_toL {key : Key} : ∀ {t : Tr}, Srt t.toL → (split key t).1.toL ++ (split key t).2.toL = t.toL ∧ (∀ a ∈ (split key t).1.toL, lt a.1 key = true) ∧ (∀ a ∈ (split key t).2.toL, lt a.1 key = false)
 | nil, _ => ⟨rfl, (fun a h => by cases h), (fun a h => by cases h)⟩
 | node l k v r, h => by
  have h0 : Srt (l.toL ++ (k, v) :: r.toL) := h
  have hl := h0.app_left
  have hr := (List.pairwise_cons.1 h0.app_right)
  have hlk : ∀ a ∈ l.toL, lt a.1 k = true := fun a ha => h0.app_lt a ha (k, v) (by simp)
  have hkr : ∀ a ∈ r.toL, lt k a.1 = true := fun a ha => hr.1 a ha
  unfold split
  split
  ·rename_i h1
   obtain ⟨i1, i2, i3⟩ := split_toL (key := key) hr.2
   simp only
   rw [join_toL _ _ _ _ _ (Nat.le_refl _)]
   refine ⟨by rw [List.append_assoc, List.cons_append, i1]; rfl, fun a ha => ?_, i3⟩
   rcases List.mem_append.1 ha with ha | ha
   ·exact lt_trans (hlk a ha) h1
   ·rcases List.mem_cons.1 ha with rfl | ha
    ·exact h1
    ·exact i2 a ha
  ·rename_i h1
   obtain ⟨i1, i2, i3⟩ := split_toL (key := key) hl
   simp only
   rw [join_toL _ _ _ _ _ (Nat.le_refl _)]
   refine ⟨by rw [← List.append_assoc, i1]; rfl, i2, fun a ha => ?_⟩
   have h1' : lt k key = false := by simpa using h1
   rcases List.mem_append.1 ha with ha | ha
   ·exact i3 a ha
   ·rcases List.mem_cons.1 ha with rfl | ha
    ·exact h1'
    ·exact le_trans h1' (lt_asymm (hkr a ha))
theorem get_toL {key : Key} : ∀ {t : Tr}, Srt t.toL → get key t = getL key t.toL
 | nil, _ => rfl
 | node l k v r, h => by
  have h0 : Srt (l.toL ++ (k, v) :: r.toL) := h
  have hl := h0.app_left
  have hr := (List.pairwise_cons.1 h0.app_right)
  have hlk : ∀ a ∈ l.toL, lt a.1 k = true := fun a ha => h0.app_lt a ha (k, v) (by simp)
  have hkr : ∀ a ∈ r.toL, lt k a.1 = true := fun a ha => hr.1 a ha
  unfold get
  split
  ·rename_i h1
   rw [get_toL hl]
   simp only [toL]
   cases hg : getL key l.toL with
   | some x => rw [getL_app2 _ hg]
   | none =>
    have hn : ∀ a ∈ l.toL, a.1 ≠ key := fun a ha e => by
     have := getL_of_mem (k := a.1) (v := a.2) hl ha
     rw [e, hg] at this; cases this
    rw [getL_app _ hn]
    unfold getL
    rw [if_neg (fun e => lt_ne h1 e.symm)]
    exact (getL_none fun a ha e => lt_ne (lt_trans h1 (hkr a ha)) e.symm).symm
  ·rename_i h1
   split
   ·rename_i h2
    rw [get_toL hr.2]
    simp only [toL]
    rw [getL_app _ (fun a ha e => lt_ne (lt_trans (hlk a ha) h2) e)]
    conv => rhs; unfold getL
    rw [if_neg (lt_ne h2)]
   ·rename_i h2
    have e : key = k := lt_tri (by simpa using h1) (by simpa using h2)
    subst e
    simp only [toL]
    rw [getL_app _ (fun a ha e => lt_ne (hlk a ha) e)]
    unfold getL
    rw [if_pos rfl]
theorem rank_toL {key : Key} : ∀ {t : Tr}, Srt t.toL → rank key t = (rankL key t.toL : Int)
 | nil, _ => rfl
 | node l k v r, h => by
  have h0 : Srt (l.toL ++ (k, v) :: r.toL) := h
  have hl := h0.app_left
  have hr := (List.pairwise_cons.1 h0.app_right)
  have hlk : ∀ a ∈ l.toL, lt a.1 k = true := fun a ha => h0.app_lt a ha (k, v) (by simp)
  have hkr : ∀ a ∈ r.toL, lt k a.1 = true := fun a ha => hr.1 a ha
  unfold rank rankL
  simp only [toL, List.filter_append, List.length_append, List.filter_cons]
  split
  ·rename_i h1
   rw [rank_toL hr.2, cn_len, List.filter_eq_self.2 (fun a ha => lt_trans (hlk a ha) h1)]
   unfold rankL
   simp; omega
  ·rename_i h1
   rw [rank_toL hl]
   have h1' : lt k key = false := by simpa using h1
   rw [(List.filter_eq_nil_iff (l := r.toL)).2 (fun a ha => by rw [le_trans h1' (lt_asymm (hkr a ha))]; decide)]
   unfold rankL
   simp
theorem at_toL : ∀ (t : Tr) (i : Int), 0 ≤ i → at_ t i = t.toL[i.toNat]?
 | nil, i, _ => rfl
 | node l k v r, i, h0 => by
  have hc := cn_len l
  unfold at_
  simp only [toL]
  split
  ·rw [at_toL l i h0, List.getElem?_append_left (by omega)]
  ·split
   ·rw [at_toL r _ (by omega), List.getElem?_append_right (by omega)]
    have e : i.toNat - l.toL.length = (i - (l.cn + 1)).toNat + 1 := by omega
    rw [e, List.getElem?_cons_succ]
   ·rw [List.getElem?_append_right (by omega)]
    have e : i.toNat - l.toL.length = 0 := by omega
    rw [e]; rfl
theorem put_srt {key val : Key} : ∀ {l : List Pr}, Srt l → Srt (putL key val l)
 | [], _ => by simp [putL, Srt]
 | (a, b) :: l, h => by
  have h0 := List.pairwise_cons.1 h
  unfold putL
  split
  ·rename_i h1
   refine List.pairwise_cons.2 ⟨fun x hx => ?_, put_srt h0.2⟩
   have : x = (key, val) ∨ x ∈ l := by
    clear h0 h h1
    induction l with
    | nil => simp [putL] at hx; exact .inl hx
    | cons q l ih =>
     obtain ⟨c, d⟩ := q
     unfold putL at hx
     split at hx
     ·rcases List.mem_cons.1 hx with rfl | hx
      ·right; simp
      ·rcases ih hx with h | h
       ·exact .inl h
       ·exact .inr (List.mem_cons_of_mem _ h)
     ·split at hx
      ·rcases List.mem_cons.1 hx with rfl | hx
       ·exact .inl rfl
       ·exact .inr (List.mem_cons_of_mem _ hx)
      ·rcases List.mem_cons.1 hx with rfl | hx
       ·exact .inl rfl
       ·exact .inr hx
   rcases this with rfl | hx
   ·exact h1
   ·exact h0.1 x hx
  ·rename_i h1
   split
   ·rename_i h2
    subst h2
    exact List.pairwise_cons.2 ⟨h0.1, h0.2⟩
   ·rename_i h2
    have h3 : lt key a = true := by
     cases h4 : lt key a with
     | true => rfl
     | false => exact absurd (lt_tri (by simpa using h1) h4) h2
    refine List.pairwise_cons.2 ⟨fun x hx => ?_, h⟩
    rcases List.mem_cons.1 hx with rfl | hx
    ·exact h3
    ·exact lt_trans h3 (h0.1 x hx)
end Tr
end Go.Proofs.YtbaedepmogkkeaaGreat.Tre
namespace Go.Proofs.YtbaedepmogkkeaaGreat.Tre
open Go
set_option linter.unusedVariables false
set_option linter.unusedSimpArgs false
namespace Tr
theorem hh_max {l r : Tr} {k v : Key} : (node l k v r).hh = 1 + max l.hh r.hh := by
 simp only [hh]; split <;> omega
def Bal : Tr → Prop
 | nil => True
 | node l _ _ r => l.Bal ∧ r.Bal ∧ -1 ≤ l.hh - r.hh ∧ l.hh - r.hh ≤ 1
theorem bal_node {l r : Tr} {k v : Key} : (node l k v r).Bal ↔ l.Bal ∧ r.Bal ∧ -1 ≤ l.hh - r.hh ∧ l.hh - r.hh ≤ 1 := Iff.rfl
theorem pos_node {t : Tr} (h : 1 ≤ t.hh) : ∃ l k v r, t = node l k v r := by
 cases t with
 | nil => simp [hh] at h
 | node l k v r => exact ⟨l, k, v, r, rfl⟩
theorem level_bal {l r : Tr} {k v : Key} (hl : l.Bal) (hr : r.Bal) (h1 : -2 ≤ l.hh - r.hh) (h2 : l.hh - r.hh ≤ 2) :
  (level (node l k v r)).Bal ∧ (level (node l k v r)).hh ≤ (node l k v r).hh ∧ (node l k v r).hh - 1 ≤ (level (node l k v r)).hh ∧ (-1 ≤ l.hh - r.hh → l.hh - r.hh ≤ 1 → level (node l k v r) = node l k v r) := by
 have p1 := hh_pos l
 have p2 := hh_pos r
 simp only [level]
 split
 ·rename_i hd
  obtain ⟨ll, lk, lv, lr, rfl⟩ := pos_node (t := l) (by omega)
  rw [bal_node] at hl
  rw [hh_max] at hd h1 h2
  have p3 := hh_pos ll
  have p4 := hh_pos lr
  split
  ·rename_i h3
   simp only [left, right] at h3
   obtain ⟨a, b, c, d, rfl⟩ := pos_node (t := lr) (by omega)
   have hb := bal_node.1 hl.2.1
   rw [hh_max] at hd h1 h2 h3 hl
   simp only [turnLeft, turnRight, bal_node, hh_max]
   refine ⟨⟨⟨hl.1, hb.1, by omega, by omega⟩, ⟨hb.2.1, hr, by omega, by omega⟩, by omega, by omega⟩, by omega, by omega, fun _ _ => by omega⟩
  ·rename_i h3
   simp only [left, right] at h3
   simp only [turnRight, bal_node, hh_max]
   refine ⟨⟨hl.1, ⟨hl.2.1, hr, by omega, by omega⟩, by omega, by omega⟩, by omega, by omega, fun _ _ => by omega⟩
 ·rename_i hd
  split
  ·rename_i hd2
   obtain ⟨rl, rk, rv, rr, rfl⟩ := pos_node (t := r) (by omega)
   rw [bal_node] at hr
   rw [hh_max] at hd hd2 h1 h2
   have p3 := hh_pos rl
   have p4 := hh_pos rr
   split
   ·rename_i h3
    simp only [left, right] at h3
    obtain ⟨a, b, c, d, rfl⟩ := pos_node (t := rl) (by omega)
    have hb := bal_node.1 hr.1
    rw [hh_max] at hd hd2 h1 h2 h3 hr
    simp only [turnLeft, turnRight, bal_node, hh_max]
    refine ⟨⟨⟨hl, hb.1, by omega, by omega⟩, ⟨hb.2.1, hr.2.1, by omega, by omega⟩, by omega, by omega⟩, by omega, by omega, fun _ _ => by omega⟩
   ·rename_i h3
    simp only [left, right] at h3
    simp only [turnLeft, bal_node, hh_max]
    refine ⟨⟨⟨hl, hr.1, by omega, by omega⟩, hr.2.1, by omega, by omega⟩, by omega, by omega, fun _ _ => by omega⟩
  ·exact ⟨⟨hl, hr, by omega, by omega⟩, Int.le_refl _, by omega, fun _ _ => rfl⟩
theorem level_hh {l r : Tr} {k v : Key} (hl : l.Bal) (hr : r.Bal) (h1 : -2 ≤ l.hh - r.hh) (h2 : l.hh - r.hh ≤ 2) :
  (level (node l k v r)).Bal ∧ (level (node l k v r)).hh ≤ 1 + max l.hh r.hh ∧ max l.hh r.hh ≤ (level (node l k v r)).hh ∧ (-1 ≤ l.hh - r.hh → l.hh - r.hh ≤ 1 → (level (node l k v r)).hh = 1 + max l.hh r.hh) := by
 obtain ⟨q1, q2, q3, q4⟩ := level_bal (k := k) (v := v) hl hr h1 h2
 rw [hh_max] at q2 q3
 exact ⟨q1, q2, by omega, fun a b => by rw [q4 a b, hh_max]⟩
theorem put_bal {key val : Key} : ∀ {t : Tr}, t.Bal → (put key val t).Bal ∧ t.hh ≤ (put key val t).hh ∧ (put key val t).hh ≤ t.hh + 1
 | nil, _ => by simp [put, Bal, hh]
 | node l k v r, h => by
  rw [bal_node] at h
  obtain ⟨hl, hr, h1, h2⟩ := h
  unfold put
  split
  ·obtain ⟨i1, i2, i3⟩ := put_bal (key := key) (val := val) hl
   obtain ⟨q1, q2, q3, q4⟩ := level_hh (k := k) (v := v) i1 hr (by omega) (by omega)
   rw [hh_max]
   exact ⟨q1, by omega, by omega⟩
  ·split
   ·obtain ⟨i1, i2, i3⟩ := put_bal (key := key) (val := val) hr
    obtain ⟨q1, q2, q3, q4⟩ := level_hh (k := k) (v := v) hl i1 (by omega) (by omega)
    rw [hh_max]
    exact ⟨q1, by omega, by omega⟩
   ·rw [bal_node, hh_max, hh_max]
    exact ⟨⟨hl, hr, h1, h2⟩, by omega, by omega⟩
theorem join_bal {k v : Key} : ∀ (n : Nat) (l r : Tr), l.sz + r.sz ≤ n → l.Bal → r.Bal → (join l k v r).Bal ∧ max l.hh r.hh ≤ (join l k v r).hh ∧ (join l k v r).hh ≤ max l.hh r.hh + 1
 | n, l, r, h, hl, hr => by
  unfold join
  cases l with
  | nil =>
   cases r with
   | nil => simp [Bal, hh]
   | node rl rk rv rr =>
    simp only
    have hr' := bal_node.1 hr
    have p1 := hh_pos rl
    have p2 := hh_pos rr
    have e0 : (nil : Tr).hh = 0 := rfl
    split
    ·rename_i hc
     cases n with
     | zero => simp [sz] at h
     | succ n =>
      obtain ⟨i1, i2, i3⟩ := join_bal (k := k) (v := v) n nil rl (by simp [sz] at h ⊢; omega) trivial hr'.1
      rw [hh_max] at hc
      obtain ⟨q1, q2, q3, q4⟩ := level_hh (k := rk) (v := rv) i1 hr'.2.1 (by omega) (by omega)
      rw [hh_max]
      exact ⟨q1, by omega, by omega⟩
    ·rename_i hc
     refine ⟨bal_node.2 ⟨trivial, hr, by omega, by have := hh_pos (node rl rk rv rr); omega⟩, ?_, ?_⟩
     ·rw [hh_max (l := nil)]; omega
     ·rw [hh_max (l := nil)]; omega
  | node ll lk lv lr =>
   have hl' := bal_node.1 hl
   have p1 := hh_pos ll
   have p2 := hh_pos lr
   have e0 : (nil : Tr).hh = 0 := rfl
   cases r with
   | nil =>
    simp only
    split
    ·rename_i hc
     cases n with
     | zero => simp [sz] at h
     | succ n =>
      obtain ⟨i1, i2, i3⟩ := join_bal (k := k) (v := v) n lr nil (by simp [sz] at h ⊢; omega) hl'.2.1 trivial
      rw [hh_max] at hc
      obtain ⟨q1, q2, q3, q4⟩ := level_hh (k := lk) (v := lv) hl'.1 i1 (by omega) (by omega)
      rw [hh_max]
      exact ⟨q1, by omega, by omega⟩
    ·rename_i hc
     refine ⟨bal_node.2 ⟨hl, trivial, by have := hh_pos (node ll lk lv lr); omega, by omega⟩, ?_, ?_⟩
     ·rw [hh_max (l := node ll lk lv lr)]; omega
     ·rw [hh_max (l := node ll lk lv lr)]; omega
   | node rl rk rv rr =>
    have hr' := bal_node.1 hr
    have p3 := hh_pos rl
    have p4 := hh_pos rr
    simp only
    split
    ·rename_i hc
     cases n with
     | zero => simp [sz] at h
     | succ n =>
      obtain ⟨i1, i2, i3⟩ := join_bal (k := k) (v := v) n lr (node rl rk rv rr) (by simp [sz] at h ⊢; omega) hl'.2.1 hr
      rw [hh_max (l := ll), hh_max (l := rl)] at hc
      rw [hh_max (l := rl)] at i2 i3
      obtain ⟨q1, q2, q3, q4⟩ := level_hh (k := lk) (v := lv) hl'.1 i1 (by omega) (by omega)
      rw [hh_max (l := ll), hh_max (l := rl)]
      exact ⟨q1, by omega, by omega⟩
    ·rename_i hc
     split
     ·rename_i hc2
      cases n with
      | zero => simp [sz] at h
      | succ n =>
       obtain ⟨i1, i2, i3⟩ := join_bal (k := k) (v := v) n (node ll lk lv lr) rl (by simp [sz] at h ⊢; omega) hl hr'.1
       rw [hh_max (l := ll), hh_max (l := rl)] at hc hc2
       rw [hh_max (l := ll)] at i2 i3
       obtain ⟨q1, q2, q3, q4⟩ := level_hh (k := rk) (v := rv) i1 hr'.2.1 (by omega) (by omega)
       rw [hh_max (l := ll), hh_max (l := rl)]
       exact ⟨q1, by omega, by omega⟩
     ·rename_i hc2
      refine ⟨bal_node.2 ⟨hl, hr, by omega, by omega⟩, ?_, ?_⟩
      ·rw [hh_max (l := node ll lk lv lr)]; omega
      ·rw [hh_max (l := node ll lk lv lr)]; omega
theorem first_bal : ∀ {t : Tr}, t.Bal → (first t).2.2.Bal ∧ t.hh - 1 ≤ (first t).2.2.hh ∧ (first t).2.2.hh ≤ t.hh
 | nil, _ => ⟨trivial, by simp [first, hh], by simp [first, hh]⟩
 | node nil k v r, h => by
  have h := bal_node.1 h
  have p := hh_pos r
  have e0 : (nil : Tr).hh = 0 := rfl
  simp only [first]
  rw [hh_max]
  exact ⟨h.2.1, by omega, by omega⟩
 | node (node a b c d) k v r, h => by
  have h := bal_node.1 h
  obtain ⟨i1, i2, i3⟩ := first_bal h.1
  have p := hh_pos r
  simp only [first]
  obtain ⟨q1, q2, q3, q4⟩ := level_hh (k := k) (v := v) i1 h.2.1 (by omega) (by omega)
  rw [hh_max (l := node a b c d)]
  exact ⟨q1, by omega, by omega⟩
theorem both_bal {l r : Tr} (hl : l.Bal) (hr : r.Bal) : (both l r).Bal := by
 cases r with
 | nil => exact hl
 | node a b c d => exact (join_bal _ _ _ (Nat.le_refl _) hl (first_bal hr).1).1
theorem split_bal {key : Key} : ∀ {t : Tr}, t.Bal → (split key t).1.Bal ∧ (split key t).2.Bal
 | nil, _ => ⟨trivial, trivial⟩
 | node l k v r, h => by
  have h := bal_node.1 h
  unfold split
  split
  ·obtain ⟨i1, i2⟩ := split_bal (key := key) h.2.1
   exact ⟨(join_bal _ _ _ (Nat.le_refl _) h.1 i1).1, i2⟩
  ·obtain ⟨i1, i2⟩ := split_bal (key := key) h.1
   exact ⟨i1, (join_bal _ _ _ (Nat.le_refl _) i2 h.2.1).1⟩
/-! ### how flat it is -/
/-! ### what begins with a text -/
end Tr
def beyond : Key → Option Key
 | [] => none
 | a :: p => match beyond p with
  | some q => some (a :: q)
  | none => if a.toNat < 255 then some [a + 1] else none
theorem beyond_none : ∀ {p : Key}, (∀ i (h : i < p.length), ¬ (p[i]).toNat < 255) → beyond p = none
 | [], _ => rfl
 | a :: p, h => by
  have h0 := h 0 (by simp)
  simp only [List.getElem_cons_zero] at h0
  unfold beyond
  rw [beyond_none fun i hi => by have := h (i + 1) (by simp; omega); simpa using this]
  simp only
  rw [if_neg h0]
theorem beyond_some : ∀ {p : Key} {i : Nat} (hi : i < p.length), (p[i]).toNat < 255 → (∀ j (h : j < p.length), i < j → ¬ (p[j]).toNat < 255) → beyond p = some (p.take i ++ [p[i] + 1])
 | a :: p, 0, _, h, hj => by
  simp only [List.getElem_cons_zero] at h
  unfold beyond
  rw [beyond_none fun j hj' => by have := hj (j + 1) (by simp; omega) (by omega); simpa using this]
  simp only
  rw [if_pos h]; rfl
 | a :: p, i + 1, hi, h, hj => by
  simp only [List.getElem_cons_succ] at h
  unfold beyond
  rw [beyond_some (i := i) (by simpa using hi) h fun j hj' hij => by have := hj (j + 1) (by simp; omega) (by omega); simpa using this]
  rfl
theorem begins_nil (x : Key) : begins [] x = true := by cases x <;> rfl
theorem begins_cons (a b : UInt8) (p x : Key) : begins (a :: p) (b :: x) = (a == b && begins p x) := rfl
theorem begins_ge : ∀ {p x : Key}, begins p x = true → lt x p = false
 | [], x, _ => lt_nil x
 | a :: p, [], h => by cases h
 | a :: p, b :: x, h => by
  rw [begins_cons, Bool.and_eq_true] at h
  have e : a = b := by simpa using h.1
  subst e
  rw [Bool.eq_false_iff]
  intro h2
  rcases (lt_cons a a x p).1 h2 with h2 | ⟨_, h2⟩
  ·omega
  ·rw [begins_ge h.2] at h2; cases h2
theorem begins_iff : ∀ {p x : Key}, lt x p = false → (begins p x = true ↔ match beyond p with | none => True | some e => lt x e = true)
 | [], x, _ => by simp [begins_nil, beyond]
 | a :: p, [], h => by rw [lt_nil_cons] at h; cases h
 | a :: p, b :: x, h => by
  have hn : ¬ (b.toNat < a.toNat ∨ b = a ∧ lt x p = true) := fun h2 => by rw [(lt_cons b a x p).2 h2] at h; cases h
  have ha := a.toNat_lt
  have hb := b.toNat_lt
  rw [begins_cons, Bool.and_eq_true]
  by_cases e : a = b
  ·subst e
   have hp : lt x p = false := by rw [Bool.eq_false_iff]; exact fun h2 => hn (.inr ⟨rfl, h2⟩)
   have ih := begins_iff hp
   unfold beyond
   cases hq : beyond p with
   | some q =>
    rw [hq] at ih
    simp only [lt_cons] at ih ⊢
    rw [ih]
    simp
   | none =>
    rw [hq] at ih
    simp only at ih
    simp only [beq_self_eq_true, true_and, ih]
    by_cases h255 : a.toNat < 255
    ·rw [if_pos h255]
     simp only [lt_cons]
     have : (a + 1).toNat = a.toNat + 1 := by rw [UInt8.toNat_add]; simp; omega
     exact ⟨fun _ => .inl (by omega), fun _ => trivial⟩
    ·rw [if_neg h255]
  ·have hlt : a.toNat < b.toNat := by
    have : a.toNat ≠ b.toNat := fun h => e (UInt8.toNat_inj.1 h)
    omega
   have hf : (a == b) = false := by simpa using e
   rw [hf]
   simp only [Bool.false_eq_true, false_and, false_iff]
   unfold beyond
   cases hq : beyond p with
   | some q =>
    simp only [lt_cons]
    rintro (h2 | ⟨h2, _⟩)
    ·omega
    ·exact e h2.symm
   | none =>
    simp only
    rw [if_pos (by omega)]
    simp only [lt_cons, lt_nil]
    have : (a + 1).toNat = a.toNat + 1 := by rw [UInt8.toNat_add]; simp; omega
    rintro (h2 | ⟨_, h2⟩)
    ·omega
    ·cases h2
theorem begins_mono {p x y : Key} (hx : lt x p = false) (hxy : lt x y = true) (hy : begins p y = true) : begins p x = true := by
 have h1 := (begins_iff (begins_ge hy)).1 hy
 rw [begins_iff hx]
 cases hq : beyond p with
 | none => trivial
 | some e =>
  rw [hq] at h1
  exact lt_trans hxy h1
namespace Tr
def del (key : Key) (t : Tr) : Tr := match get key t with
 | none => t
 | some _ => both (split key t).1 (first (split key t).2).2.2
def drop (p : Key) (t : Tr) : Tr := match beyond p with
 | none => (split p t).1
 | some e => both (split p t).1 (split e (split p t).2).2
theorem del_bal {key : Key} {t : Tr} (h : t.Bal) : (del key t).Bal := by
 unfold del
 split
 ·exact h
 ·exact both_bal (split_bal h).1 (first_bal (split_bal h).2).1
theorem drop_bal {p : Key} {t : Tr} (h : t.Bal) : (drop p t).Bal := by
 unfold drop
 split
 ·exact (split_bal h).1
 ·exact both_bal (split_bal h).1 (split_bal (split_bal h).2).2
theorem del_toL {key : Key} {t : Tr} (h : Srt t.toL) : (del key t).toL = delL key t.toL := by
 obtain ⟨s1, s2, s3⟩ := split_toL (key := key) h
 unfold del
 rw [get_toL h]
 cases hg : getL key t.toL with
 | none =>
  unfold delL
  rw [List.filter_eq_self.2]
  intro a ha
  have : a.1 ≠ key := fun e => by
   have := getL_of_mem (k := a.1) (v := a.2) h ha
   rw [e, hg] at this; cases this
  simpa using this
 | some v =>
  have hm := getL_mem hg
  rw [← s1] at hm
  rcases List.mem_append.1 hm with hm | hm
  ·have := s2 _ hm
   rw [lt_irr] at this; cases this
  ·simp only
   have hne : (split key t).2 ≠ nil := fun e => by rw [e] at hm; cases hm
   have hf := first_toL _ hne
   rw [both_toL, ← s1]
   unfold delL
   rw [List.filter_append, List.filter_eq_self.2 (fun a ha => by simpa using lt_ne (s2 a ha))]
   congr 1
   rw [← s1] at h
   have hsr := h.app_right
   rw [← hf] at hsr hm
   have hp := List.pairwise_cons.1 hsr
   have hk : (first (split key t).2).1 = key := by
    rcases List.mem_cons.1 hm with e | hm
    ·injection e with e _; exact e.symm
    ·have h1 := hp.1 _ hm
     have h2 := s3 ((first (split key t).2).1, (first (split key t).2).2.1) (by rw [← hf]; simp)
     simp only at h1 h2
     rw [h1] at h2; cases h2
   rw [← hf, List.filter_cons, if_neg (by simp [hk]), List.filter_eq_self.2]
   intro a ha
   have := hp.1 a ha
   simp only [hk] at this
   simpa using fun e => lt_ne this e.symm
theorem drop_toL {p : Key} {t : Tr} (h : Srt t.toL) : (drop p t).toL = dropL p t.toL := by
 obtain ⟨s1, s2, s3⟩ := split_toL (key := p) h
 have hs := h
 rw [← s1] at hs
 have hless : ((split p t).1.toL).filter (fun q => !begins p q.1) = (split p t).1.toL := by
  rw [List.filter_eq_self]
  intro a ha
  cases hb : begins p a.1 with
  | false => rfl
  | true => have := begins_ge hb; rw [s2 a ha] at this; cases this
 have hdl : dropL p t.toL = (split p t).1.toL ++ ((split p t).2.toL).filter (fun q => !begins p q.1) := by
  unfold dropL
  rw [← s1, List.filter_append, hless]
 unfold drop
 rw [hdl]
 cases hq : beyond p with
 | none =>
  simp only
  rw [(List.filter_eq_nil_iff (l := (split p t).2.toL)).2 (fun a ha => by
   have := (begins_iff (s3 a ha)).2 (by rw [hq]; trivial)
   rw [this]; decide)]
  simp
 | some e =>
  simp only
  obtain ⟨r1, r2, r3⟩ := split_toL (key := e) hs.app_right
  have hge : ∀ a ∈ (split p t).2.toL, (begins p a.1 = true ↔ lt a.1 e = true) := fun a ha => by
   have := begins_iff (s3 a ha)
   rw [hq] at this; exact this
  rw [both_toL]
  congr 1
  rw [← r1, List.filter_append, (List.filter_eq_nil_iff (l := (split e (split p t).2).1.toL)).2 (fun a ha => by
   have := (hge a (by rw [← r1]; exact List.mem_append_left _ ha)).2 (r2 a ha)
   rw [this]; decide), List.filter_eq_self.2 (fun a ha => by
   cases hb : begins p a.1 with
   | false => rfl
   | true =>
    have h1 := (hge a (by rw [← r1]; exact List.mem_append_right _ ha)).1 hb
    rw [r3 a ha] at h1; cases h1)]
  rfl
end Tr
theorem srt_filter {l : List Pr} (h : Srt l) (f : Pr → Bool) : Srt (l.filter f) := List.Pairwise.filter _ h
theorem del_srt {k : Key} {l : List Pr} (h : Srt l) : Srt (delL k l) := srt_filter h _
theorem drop_srt {p : Key} {l : List Pr} (h : Srt l) : Srt (dropL p l) := srt_filter h _
theorem under_run {p : Key} {l : List Pr} (h : Srt l) : underL p l = (l.drop (rankL p l)).takeWhile (fun q => begins p q.1) := by
 induction l with
 | nil => rfl
 | cons a l ih =>
  have h0 := List.pairwise_cons.1 h
  unfold underL rankL
  simp only [List.filter_cons]
  cases hlt : lt a.1 p with
  | true =>
   have hb : begins p a.1 = false := by
    cases hb : begins p a.1 with
    | false => rfl
    | true => have := begins_ge hb; rw [hlt] at this; cases this
   rw [hb]
   simp only [Bool.false_eq_true, if_false, if_true, List.length_cons, List.drop_succ_cons]
   exact ih h0.2
  | false =>
   have hall : ∀ b ∈ l, lt b.1 p = false := fun b hb => by
    rw [Bool.eq_false_iff]
    intro h2
    have := lt_trans (h0.1 b hb) h2
    rw [hlt] at this; cases this
   have hr : (l.filter fun q => lt q.1 p).length = 0 := by
    rw [(List.filter_eq_nil_iff (l := l)).2 (fun b hb => by rw [hall b hb]; decide)]; rfl
   simp only [Bool.false_eq_true, if_false, hr, List.drop_zero, List.takeWhile_cons]
   have ih' := ih h0.2
   unfold underL rankL at ih'
   rw [hr, List.drop_zero] at ih'
   cases hb : begins p a.1 with
   | true => simp only [if_true]; rw [ih']
   | false =>
    simp only [Bool.false_eq_true, if_false]
    rw [List.filter_eq_nil_iff]
    intro b hb2 hb3
    have := begins_mono hlt (h0.1 b hb2) hb3
    rw [hb] at this; cases this
theorem srt_ext : ∀ {l m : List Pr}, Srt l → Srt m → l.length = m.length → (∀ a ∈ l, a ∈ m) → l = m
 | [], [], _, _, _, _ => rfl
 | [], _ :: _, _, _, h, _ => by simp at h
 | _ :: _, [], _, _, h, _ => by simp at h
 | a :: l, b :: m, hl, hm, hlen, hsub => by
  have hl0 := List.pairwise_cons.1 hl
  have hm0 := List.pairwise_cons.1 hm
  -- b is in a :: l too: by counting
  have hnd : ∀ {l : List Pr}, Srt l → l.Nodup := fun h => List.Pairwise.imp (fun h e => lt_ne h (congrArg Prod.fst e)) h
  have hlen2 : l.length = m.length := by simpa using hlen
  by_cases e : a = b
  ·subst e
   rw [srt_ext hl0.2 hm0.2 hlen2 fun x hx => by
    rcases List.mem_cons.1 (hsub x (List.mem_cons_of_mem _ hx)) with rfl | h
    ·have := hl0.1 _ hx; rw [lt_irr] at this; cases this
    ·exact h]
  · -- all of a :: l lies in m, which is shorter
   exfalso
   have ha : a ∈ m := by
    rcases List.mem_cons.1 (hsub a (by simp)) with h | h
    ·exact absurd h e
    ·exact h
   have hsub2 : ∀ x ∈ a :: l, x ∈ m := by
    intro x hx
    rcases List.mem_cons.1 (hsub x hx) with rfl | h
    ·exfalso
     have h1 := hm0.1 a ha
     rcases List.mem_cons.1 hx with h2 | h2
     ·exact e h2.symm
     ·have := lt_trans h1 (hl0.1 _ h2); rw [lt_irr] at this; cases this
    ·exact h
   have := (List.Nodup.length_le_of_subset (hnd hl) hsub2 : (a :: l).length ≤ m.length)
   simp at this; omega
end Go.Proofs.YtbaedepmogkkeaaGreat.Tre
namespace Go.Proofs.YtbaedepmogkkeaaGreat.Tre
open Go
set_option linter.unusedVariables false
set_option linter.unusedSimpArgs false
abbrev OpP := Nat × Key × Key
def stepL (o : OpP) (l : List Pr) : List Pr := if o.1 = 1 then putL o.2.1 o.2.2 l else if o.1 = 2 then delL o.2.1 l else if o.1 = 3 then dropL o.2.1 l else l
def applyL : List OpP → List Pr → List Pr
 | [], l => l
 | o :: os, l => applyL os (stepL o l)
namespace Tr
def step (o : OpP) (t : Tr) : Tr := if o.1 = 1 then put o.2.1 o.2.2 t else if o.1 = 2 then del o.2.1 t else if o.1 = 3 then drop o.2.1 t else t
def apply : List OpP → Tr → Tr
 | [], t => t
 | o :: os, t => apply os (step o t)
structure Good (t : Tr) : Prop where
 srt : Srt t.toL
 bal : t.Bal
theorem good_nil : Good nil := ⟨List.Pairwise.nil, trivial⟩
theorem Good.put {t : Tr} (h : Good t) (k v : Key) : Good (t.put k v) ∧ (t.put k v).toL = putL k v t.toL := by
 have e := put_toL (key := k) (val := v) h.srt
 exact ⟨⟨by rw [e]; exact put_srt h.srt, (put_bal h.bal).1⟩, e⟩
theorem Good.del {t : Tr} (h : Good t) (k : Key) : Good (t.del k) ∧ (t.del k).toL = delL k t.toL := by
 have e := del_toL (key := k) h.srt
 exact ⟨⟨by rw [e]; exact del_srt h.srt, del_bal h.bal⟩, e⟩
theorem Good.drop {t : Tr} (h : Good t) (k : Key) : Good (t.drop k) ∧ (t.drop k).toL = dropL k t.toL := by
 have e := drop_toL (p := k) h.srt
 exact ⟨⟨by rw [e]; exact drop_srt h.srt, drop_bal h.bal⟩, e⟩
theorem Good.step {t : Tr} (h : Good t) (o : OpP) : Good (t.step o) ∧ (t.step o).toL = stepL o t.toL := by
 unfold Tr.step stepL
 split
 ·exact h.put _ _
 ·split
  ·exact h.del _
  ·split
   ·exact h.drop _
   ·exact ⟨h, rfl⟩
end Tr
/-! ### sizes -/
theorem putL_len (k v : Key) : ∀ l : List Pr, (putL k v l).length ≤ l.length + 1 ∧ bytesL (putL k v l) ≤ bytesL l + 4 + k.length + v.length
 | [] => by simp [putL, bytesL]
 | (a, b) :: l => by
  have ih := putL_len k v l
  unfold putL
  split
  ·simp only [List.length_cons, bytesL]; omega
  ·split
   ·rename_i e; subst e; simp only [List.length_cons, bytesL]; omega
   ·simp only [List.length_cons, bytesL]; omega
theorem filter_len (f : Pr → Bool) : ∀ l : List Pr, (l.filter f).length ≤ l.length ∧ bytesL (l.filter f) ≤ bytesL l
 | [] => by simp [bytesL]
 | (a, b) :: l => by
  have ih := filter_len f l
  simp only [List.filter_cons]
  split
  ·simp only [List.length_cons, bytesL]; omega
  ·simp only [List.length_cons, bytesL]; omega
theorem stepL_len (o : OpP) (l : List Pr) : (stepL o l).length ≤ l.length + 1 ∧ bytesL (stepL o l) ≤ bytesL l + 4 + o.2.1.length + o.2.2.length := by
 unfold stepL
 split
 ·exact putL_len _ _ l
 ·split
  ·have := filter_len (fun p => p.1 != o.2.1) l; unfold delL; omega
  ·split
   ·have := filter_len (fun q => !begins o.2.1 q.1) l; unfold dropL; omega
   ·omega
def OpsIn (a b : Nat) (os : List OpP) : Prop := ∀ o ∈ os, o.2.1.length ≤ a ∧ o.2.2.length ≤ b
theorem applyL_len {a b : Nat} : ∀ (os : List OpP) (l : List Pr), OpsIn a b os → (applyL os l).length ≤ l.length + os.length ∧ bytesL (applyL os l) ≤ bytesL l + (4 + a + b) * os.length
 | [], l, _ => by simp [applyL]
 | o :: os, l, h => by
  have h0 := h o (by simp)
  have ih := applyL_len os (stepL o l) (fun x hx => h x (List.mem_cons_of_mem _ hx))
  have hs := stepL_len o l
  simp only [applyL, List.length_cons, Nat.mul_succ]
  omega
namespace Tr
theorem cn_join {l r : Tr} {k v : Key} : (join l k v r).cn = 1 + l.cn + r.cn := by
 rw [cn_len, cn_len, cn_len, join_toL _ _ _ _ _ (Nat.le_refl _)]; simp; omega
theorem wt_join {l r : Tr} {k v : Key} : (join l k v r).wt = 4 + (k.length : Int) + (v.length : Int) + l.wt + r.wt := by
 rw [wt_len, wt_len, wt_len, join_toL _ _ _ _ _ (Nat.le_refl _), bytesL_app]; simp [bytesL]; omega
theorem cn_level {t : Tr} : (level t).cn = t.cn := by rw [cn_len, cn_len, level_toL]
theorem wt_level {t : Tr} : (level t).wt = t.wt := by rw [wt_len, wt_len, level_toL]
theorem first_sizes {t : Tr} (h : t ≠ nil) : (first t).2.2.cn = t.cn - 1 ∧ (first t).2.2.wt + (4 + ((first t).1.length : Int) + ((first t).2.1.length : Int)) = t.wt := by
 have e := first_toL t h
 rw [cn_len, cn_len, wt_len, wt_len, ← e]
 simp [bytesL]; omega
theorem split_sizes {key : Key} : ∀ {t : Tr}, (split key t).1.cn + (split key t).2.cn = t.cn ∧ (split key t).1.wt + (split key t).2.wt = t.wt
 | nil => ⟨rfl, rfl⟩
 | node l k v r => by
  unfold split
  split
  ·obtain ⟨h1, h2⟩ := split_sizes (key := key) (t := r)
   simp only [cn_join, wt_join, cn, wt]; omega
  ·obtain ⟨h1, h2⟩ := split_sizes (key := key) (t := l)
   simp only [cn_join, wt_join, cn, wt]; omega
theorem put_sizes {k v : Key} : ∀ {t : Tr}, (put k v t).cn ≤ t.cn + 1 ∧ (put k v t).wt ≤ t.wt + 4 + (k.length : Int) + (v.length : Int)
 | nil => by simp [put, cn, wt]
 | node l a b r => by
  have c1 := cn_pos l
  have c2 := cn_pos r
  unfold put
  split
  ·obtain ⟨h1, h2⟩ := put_sizes (k := k) (v := v) (t := l)
   simp only [cn_level, wt_level, cn, wt]; omega
  ·split
   ·obtain ⟨h1, h2⟩ := put_sizes (k := k) (v := v) (t := r)
    simp only [cn_level, wt_level, cn, wt]; omega
   ·rename_i h1 h2
    have e : k = a := lt_tri (by simpa using h1) (by simpa using h2)
    subst e
    simp only [cn, wt]; omega
def same (a b : Tr) : Bool := decide (a.toL = b.toL)
theorem same_iff {a b : Tr} (ha : Good a) (hb : Good b) : a.toL = b.toL ↔ a.cn = b.cn ∧ a.wt = b.wt ∧ ∀ q ∈ a.toL, get q.1 b = some q.2 := by
 constructor
 ·intro h
  refine ⟨by rw [cn_len, cn_len, h], by rw [wt_len, wt_len, h], fun q hq => ?_⟩
  rw [get_toL hb.srt]
  exact getL_of_mem hb.srt (by rw [← h]; exact hq)
 ·rintro ⟨h1, _, h3⟩
  refine srt_ext ha.srt hb.srt (by rw [cn_len, cn_len] at h1; omega) fun q hq => ?_
  have := h3 q hq
  rw [get_toL hb.srt] at this
  exact getL_mem this
end Tr
end Go.Proofs.YtbaedepmogkkeaaGreat.Tre
