/- lru: its functions' contracts, over lists of keys and values (of a cache). No program's law is stated here. No conditions but those on lengths. -/
import Derived.Test.YtdicpbecdhaphaaLruEK
import Derived.Test.YtdicpbecdhaphaaLruT
namespace Go.Proofs.Ytdicpbecdhaphaa.Av.LruK
open Go Go.RowKit
set_option linter.unusedVariables false
set_option linter.unusedSimpArgs false
set_option maxRecDepth 100000

abbrev VT := (List UInt8 × Bool)
def enc : VT → List Value := fun x => [.string (bs x.1), .bool x.2]
def encX (xs : List (List UInt8 × VT)) : List (List UInt8 × List Value) := xs.map fun x => (x.1, enc x.2)
def has (xs : List (List UInt8 × VT)) (k : List UInt8) : Bool := xs.any fun x => x.1 == k
def wo (xs : List (List UInt8 × VT)) (k : List UInt8) : List (List UInt8 × VT) := xs.filter fun x => !(x.1 == k)
def val (xs : List (List UInt8 × VT)) (k : List UInt8) : VT := match xs.find? fun x => x.1 == k with
  | some x => x.2
  | none => ([], false)
def putK (most : Nat) (xs : List (List UInt8 × VT)) (k : List UInt8) (v : VT) : List UInt8 × Bool := match wo xs k ++ [(k, v)] with
  | [] => ([], false)
  | y :: ys => if ys.length + 1 ≤ most then ([], false) else (y.1, true)
def putX (most : Nat) (xs : List (List UInt8 × VT)) (k : List UInt8) (v : VT) : List (List UInt8 × VT) := match wo xs k ++ [(k, v)] with
  | [] => []
  | y :: ys => if ys.length + 1 ≤ most then y :: ys else ys
def getX (xs : List (List UInt8 × VT)) (k : List UInt8) : List (List UInt8 × VT) := if has xs k then wo xs k ++ [(k, val xs k)] else xs
section
variable {w : World} {g m h : Nat} {ls : List Lk} {most : Int} {xs : List (List UInt8 × VT)}
theorem len_x (hx : itemsOf ls = encX xs) : ls.length = xs.length := by
  have := congrArg List.length hx
  simpa [itemsOf, encX] using this
theorem wo_none : ∀ {xs : List (List UInt8 × VT)} {k : List UInt8}, has xs k = false → wo xs k = xs
  | [], _, _ => rfl
  | x :: xs, k, h => by
    unfold has at h
    rw [List.any_cons, Bool.or_eq_false_iff] at h
    unfold wo
    rw [List.filter_cons, h.1]
    simp only [Bool.not_false, if_true]
    rw [show xs.filter (fun x => !(x.1 == k)) = xs from wo_none (xs := xs) h.2]
theorem split_x : ∀ {xs : List (List UInt8 × VT)} {k : List UInt8}, (xs.map (·.1)).Nodup → has xs k = true → ∃ a b, xs = a ++ (k, val xs k) :: b ∧ wo xs k = a ++ b
  | [], _, _, h => by cases h
  | x :: xs, k, hn, h => by
    have hn' := List.nodup_cons.1 hn
    by_cases hx : x.1 = k
    · have hh : has xs k = false := by
        cases e : has xs k with
        | false => rfl
        | true =>
          obtain ⟨y, hy, e2⟩ := List.any_eq_true.1 e
          exact absurd (List.mem_map.2 ⟨y, hy, by show y.1 = x.1; rw [hx]; simpa using e2⟩) hn'.1
      refine ⟨[], xs, ?_, ?_⟩
      · have : val (x :: xs) k = x.2 := by
          unfold val
          rw [List.find?_cons_of_pos (by simpa using hx)]
        rw [this, ← hx]; rfl
      · unfold wo
        rw [List.filter_cons_of_neg (by simpa using hx)]
        exact wo_none hh
    · have hh : has xs k = true := by
        unfold has at h ⊢
        rw [List.any_cons] at h
        simpa [hx] using h
      obtain ⟨a, b, e1, e2⟩ := split_x hn'.2 hh
      have hv : val (x :: xs) k = val xs k := by
        unfold val
        rw [List.find?_cons_of_neg (by simpa using hx)]
      refine ⟨x :: a, b, ?_, ?_⟩
      · rw [hv, List.cons_append, ← e1]
      · unfold wo
        rw [List.filter_cons_of_pos (by simpa using hx)]
        rw [show xs.filter (fun x => !(x.1 == k)) = a ++ b from e2]
        rfl
theorem val_no {xs : List (List UInt8 × VT)} {k : List UInt8} (h : has xs k = false) : val xs k = ([], false) := by
  have : xs.find? (fun x => x.1 == k) = none := List.find?_eq_none.2 fun x hx e => by
    have : has xs k = true := List.any_eq_true.2 ⟨x, hx, e⟩
    rw [h] at this; cases this
  unfold val
  rw [this]
/-- a key that is there, or is not -/
theorem cases_x (A : LruI w g m h ls most) (hx : itemsOf ls = encX xs) (k : List UInt8) :
    (has xs k = true ∧ ∃ l1 l l2, ls = l1 ++ l :: l2 ∧ l.k = k ∧ l.v = enc (val xs k) ∧ itemsOf (l1 ++ l2) = encX (wo xs k)) ∨ (has xs k = false ∧ wo xs k = xs ∧ ∀ y ∈ ls, y.k ≠ k) := by
  have hkk : ls.map (·.k) = xs.map (·.1) := by
    have := congrArg (List.map (·.1)) hx
    simpa [itemsOf, encX, Function.comp_def] using this
  have hn : (xs.map (·.1)).Nodup := hkk ▸ A.keys
  cases hh : has xs k with
  | true =>
    obtain ⟨a, b, e1, e2⟩ := split_x hn hh
    have h1 : ls.map (fun l => (l.k, l.v)) = encX a ++ (k, enc (val xs k)) :: encX b := by
      have : itemsOf ls = encX (a ++ (k, val xs k) :: b) := by rw [← e1]; exact hx
      rw [show itemsOf ls = ls.map (fun l => (l.k, l.v)) from rfl] at this
      rw [this]
      simp [encX]
    obtain ⟨l1, l3, rfl, h2, h3⟩ := List.map_eq_append_iff.1 h1
    obtain ⟨l, l2, rfl, h4, h5⟩ := List.map_eq_cons_iff.1 h3
    simp only [Prod.mk.injEq] at h4
    refine .inl ⟨rfl, l1, l, l2, rfl, h4.1, h4.2, ?_⟩
    rw [e2]
    simp only [itemsOf, encX, List.map_append] at h2 h5 ⊢
    rw [h2, h5]
  | false =>
    refine .inr ⟨rfl, wo_none hh, fun y hy e => ?_⟩
    have h1 : y.k ∈ xs.map (·.1) := hkk ▸ List.mem_map_of_mem hy
    obtain ⟨x, hxx, e2⟩ := List.mem_map.1 h1
    have : has xs k = true := List.any_eq_true.2 ⟨x, hxx, by simpa using e2.trans e⟩
    rw [hh] at this
    cases this
abbrev Lr (most : Nat) (xs : List (List UInt8 × VT)) : ABlk := lruB tk tL zI (most : Int) (encX xs)
abbrev vA (v : VT) : Value := .agg #[.string (bs v.1), .bool v.2]
theorem len_c (most : Nat) (xs : List (List UInt8 × VT)) : SM 88 [.ptr 0 0] [Lr most xs] [.ptr 0 0] (Z xs.length) [Lr most xs] :=
  SM_lru (vals := []) Try.func88 (by kernel_rfl) rfl fun w g m h ls A hx => by
    have := len_ok A
    rw [len_x hx, hx] at this
    exact this
theorem most_c (most : Nat) (xs : List (List UInt8 × VT)) : SM 104 [.ptr 0 0] [Lr most xs] [.ptr 0 0] (Z most) [Lr most xs] :=
  SM_lru (vals := []) Try.func104 (by kernel_rfl) rfl fun w g m h ls A hx => by
    have := most_ok A
    rw [hx] at this
    exact this
theorem clear_c (most : Nat) (xs : List (List UInt8 × VT)) : SM 84 [.ptr 0 0] [Lr most xs] [.ptr 0 0] (.ex (.tuple #[])) [Lr most []] :=
  SM_lru (vals := []) Try.func84 (by kernel_rfl) rfl fun w g m h ls A hx => clear_ok A
theorem del_c (most : Nat) (xs : List (List UInt8 × VT)) (k : List UInt8) : SM 82 [.ptr 0 0, T k] [Lr most xs] [.ptr 0 0] (B (has xs k)) [Lr most (wo xs k)] :=
  SM_lru (vals := [.string (bs k)]) Try.func82 (by kernel_rfl) rfl fun w g m h ls A hx => by
    rcases cases_x A hx k with ⟨hh, l1, l, l2, rfl, rfl, hv, hw⟩ | ⟨hh, hw, hk⟩
    · have := del_yes A
      rw [hw] at this
      rw [hh]
      exact this
    · rw [hh, hw]
      refine (del_no A hk).mono ?_
      rintro e w' ⟨rfl, rfl⟩
      exact ⟨rfl, hx ▸ LruTurn.refl A⟩
theorem only_turn {w' : World} (A : LruI w g m h ls most) (hx : itemsOf ls = encX xs) (hO : Only w (fun _ => False) w') : LruTurn tk tL zI w g m h ls w' most (encX xs) :=
  ⟨m, h, ls, A.only hO, hx, hO.held.wider (fun _ h => h.elim), fun _ h => .inl h⟩
theorem peek_c (most : Nat) (xs : List (List UInt8 × VT)) (k : List UInt8) : SM 110 [.ptr 0 0, T k] [Lr most xs] [.ptr 0 0] (.ex (.tuple #[vA (val xs k), .bool (has xs k)])) [Lr most xs] :=
  SM_lru (vals := [.string (bs k)]) Try.func110 (by kernel_rfl) rfl fun w g m h ls A hx => by
    rcases cases_x A hx k with ⟨hh, l1, l, l2, rfl, rfl, hv, hw⟩ | ⟨hh, hw, hk⟩
    · rw [hh]
      refine (peek_yes A (val xs l.k).1 (val xs l.k).2 hv).mono ?_
      rintro e w' ⟨rfl, hO⟩
      exact ⟨rfl, only_turn A hx hO⟩
    · rw [hh, val_no hh]
      refine (peek_no A hk).mono ?_
      rintro e w' ⟨rfl, hO⟩
      exact ⟨rfl, only_turn A hx hO⟩
theorem get_c (most : Nat) (xs : List (List UInt8 × VT)) (k : List UInt8) : SM 86 [.ptr 0 0, T k] [Lr most xs] [.ptr 0 0] (.ex (.tuple #[vA (val xs k), .bool (has xs k)])) [Lr most (getX xs k)] :=
  SM_lru (vals := [.string (bs k)]) Try.func86 (by kernel_rfl) rfl fun w g m h ls A hx => by
    rcases cases_x A hx k with ⟨hh, l1, l, l2, rfl, rfl, hv, hw⟩ | ⟨hh, hw, hk⟩
    · have e1 : encX (getX xs l.k) = itemsOf (l1 ++ l2 ++ [l]) := by
        unfold getX
        rw [if_pos hh]
        have : itemsOf (l1 ++ l2 ++ [l]) = itemsOf (l1 ++ l2) ++ [(l.k, l.v)] := by simp [itemsOf]
        rw [this, hw, hv]
        simp [encX]
      rw [hh, e1]
      exact get_yes A (val xs l.k).1 (val xs l.k).2 hv
    · have e1 : getX xs k = xs := by unfold getX; rw [hh]; rfl
      rw [hh, val_no hh, e1]
      refine (get_no A hk).mono ?_
      rintro e w' ⟨rfl, hO⟩
      exact ⟨rfl, only_turn A hx hO⟩
theorem made_c (most : Nat) : SM 105 [Z most] [] [] (.ptr 0 0) [Lr most []] :=
  SM_made (vals := [.int .i64 most]) Try.func105 (by kernel_rfl) rfl fun w => made_ok w most
theorem fork_c (most : Nat) (xs : List (List UInt8 × VT)) (hn : xs.length ≤ most) : SM 85 [.ptr 0 0] [Lr most xs] [.ptr 0 0] (.ptr 1 0) [Lr most xs, Lr most xs] :=
  SM_fork (vals := []) Try.func85 (by kernel_rfl) rfl fun w g m h ls A hx => by
    have := fork_ok A (by rw [len_x hx]; omega) fun y hy => by
      have h1 : (y.k, y.v) ∈ encX xs := hx ▸ List.mem_map_of_mem (f := fun l : Lk => (l.k, l.v)) hy
      obtain ⟨x, _, e⟩ := List.mem_map.1 h1
      simp only [Prod.mk.injEq] at e
      exact ⟨x.2.1, x.2.2, e.2.symm⟩
    rw [hx] at this
    exact this
theorem keys_c (most : Nat) (xs : List (List UInt8 × VT)) (hn : xs.length ≤ 1000) : SM 108 [.ptr 0 0] [Lr most xs] [.ptr 0 0] (.sl 1 xs.length) [Lr most xs, ⟨(xs.map (·.1)).map T, some 9, false, true⟩] :=
  SM_keys (vals := []) Try.func108 (by kernel_rfl) rfl fun w g m h ls A hx => by
    have := keys_ok A (by rw [len_x hx]; exact hn)
    have hkk : ls.map (·.k) = xs.map (·.1) := by
      have := congrArg (List.map (·.1)) hx
      simpa [itemsOf, encX, Function.comp_def] using this
    rw [len_x hx, hkk] at this
    exact this
theorem put_fit {most : Nat} {xs : List (List UInt8 × VT)} {k : List UInt8} {v : VT} (h : (wo xs k).length + 1 ≤ most) : putK most xs k v = ([], false) ∧ putX most xs k v = wo xs k ++ [(k, v)] := by
  unfold putK putX
  cases e : wo xs k with
  | nil => rw [e] at h; simp at h; simp; omega
  | cons y ys => rw [e] at h; simp at h; simp; omega
theorem put_out {most : Nat} {xs : List (List UInt8 × VT)} {k : List UInt8} {v : VT} {y : List UInt8 × VT} {ys : List (List UInt8 × VT)} (e : wo xs k ++ [(k, v)] = y :: ys) (h : most < ys.length + 1) : putK most xs k v = (y.1, true) ∧ putX most xs k v = ys := by
  unfold putK putX
  rw [e]
  simp only
  rw [if_neg (by omega), if_neg (by omega)]
  exact ⟨rfl, rfl⟩
theorem put_c (most : Nat) (xs : List (List UInt8 × VT)) (k : List UInt8) (v : VT) (hn : xs.length ≤ most) : SM 109 [.ptr 0 0, T k, .ex (vA v)] [Lr most xs] [.ptr 0 0] (.ex (.tuple #[.string (bs (putK most xs k v).1), .bool (putK most xs k v).2])) [Lr most (putX most xs k v)] :=
  SM_lru (vals := [.string (bs k), vA v]) Try.func109 (by kernel_rfl) rfl fun w g m h ls A hx => by
    rcases cases_x A hx k with ⟨hh, l1, l, l2, rfl, rfl, hv, hw⟩ | ⟨hh, hw, hk⟩
    · have hl1 : (l1 ++ l :: l2).length = xs.length := len_x hx
      have hl2 : (l1 ++ l2).length = (wo xs l.k).length := len_x hw
      obtain ⟨e1, e2⟩ := put_fit (most := most) (v := v) (by rw [← hl2]; simp at hl1 ⊢; omega)
      rw [e1, e2]
      have := put_there A v.1 v.2 (by rw [hl1]; omega)
      have e3 : itemsOf (l1 ++ l2 ++ [⟨l.x, l.k, enc v⟩]) = encX (wo xs l.k ++ [(l.k, v)]) := by
        have : itemsOf (l1 ++ l2 ++ [⟨l.x, l.k, enc v⟩]) = itemsOf (l1 ++ l2) ++ [(l.k, enc v)] := by simp [itemsOf]
        rw [this, hw]
        simp [encX]
      rw [← e3]
      exact this
    · have hl1 : ls.length = xs.length := len_x hx
      by_cases hlt : xs.length < most
      · obtain ⟨e1, e2⟩ := put_fit (most := most) (k := k) (v := v) (xs := xs) (by rw [hw]; omega)
        rw [e1, e2, hw]
        have := put_new A hk v.1 v.2 (by rw [hl1]; omega)
        have e3 : itemsOf (ls ++ [⟨0, k, enc v⟩]) = encX (xs ++ [(k, v)]) := by
          have : itemsOf (ls ++ [⟨0, k, enc v⟩]) = itemsOf ls ++ [(k, enc v)] := by simp [itemsOf]
          rw [this, hx]
          simp [encX]
        rw [← e3]
        exact this
      · obtain ⟨y, ys, ey⟩ : ∃ y ys, xs ++ [(k, v)] = y :: ys := by
          cases xs with
          | nil => exact ⟨_, _, rfl⟩
          | cons y ys => exact ⟨_, _, rfl⟩
        have hly : ys.length = xs.length := by
          have := congrArg List.length ey
          simpa using this.symm
        obtain ⟨e1, e2⟩ := put_out (most := most) (k := k) (v := v) (xs := xs) (by rw [hw]; exact ey) (by omega)
        rw [e1, e2]
        obtain ⟨l, l2, hL⟩ : ∃ l l2, ls ++ [⟨(w.heap.size + 1), k, enc v⟩] = l :: l2 := by
          cases ls with
          | nil => exact ⟨_, _, rfl⟩
          | cons y ys => exact ⟨_, _, rfl⟩
        have h3 : itemsOf (l :: l2) = encX (y :: ys) := by
          rw [← hL, ← ey]
          have : itemsOf (ls ++ [⟨(w.heap.size + 1), k, enc v⟩]) = itemsOf ls ++ [(k, enc v)] := by simp [itemsOf]
          rw [this, hx]
          simp [encX]
        simp only [itemsOf, encX, List.map_cons, List.cons.injEq, Prod.mk.injEq] at h3
        have := put_full A hk v.1 v.2 (by rw [hl1]; omega) hL
        rw [show itemsOf l2 = encX ys from h3.2, h3.1.1] at this
        exact this
end
end Go.Proofs.Ytdicpbecdhaphaa.Av.LruK
