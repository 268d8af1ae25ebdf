/- cache: a key, and others that are noted behind it. Plain. No conditions. -/
import Derived.Test.YtdjdcpbakeahcaaCach3
namespace Go.Proofs.Ytdjdcpbakeahcaa.Av.LruK
open Go Go.RowKit Pre
set_option linter.unusedVariables false
set_option linter.unusedSimpArgs false
def mk (key : List UInt8) (i : Nat) : List UInt8 := key ++ [47, UInt8.ofNat i]
theorem mk_ne (key : List UInt8) (i : Nat) : mk key i ≠ key := fun e => by
  have := congrArg List.length e
  simp [mk] at this
theorem mk_inj {key : List UInt8} {i j : Nat} (hi : i < 256) (hj : j < 256) (e : mk key i = mk key j) : i = j := by
  unfold mk at e
  have e := List.append_cancel_left e
  simp only [List.cons.injEq, and_true, true_and] at e
  have := congrArg UInt8.toNat e
  rwa [UInt8.toNat_ofNat_of_lt' (by show i < 256; exact hi), UInt8.toNat_ofNat_of_lt' (by show j < 256; exact hj)] at this
def oth (key : List UInt8) (n : Nat) : Xs := (List.range n).map fun i => (mk key i, ([], false))
def full (key : List UInt8) (n : Nat) : Xs := (key, ([118], true)) :: oth key n
theorem full_len (key : List UInt8) (n : Nat) : (full key n).length = n + 1 := by simp [full, oth]
theorem full_succ (key : List UInt8) (n : Nat) : full key (n + 1) = full key n ++ [(mk key n, ([], false))] := by
  unfold full oth
  rw [List.range_succ, List.map_append]; rfl
def kept (key : List UInt8) (m n : Nat) : Xs := (full key n).drop (n + 1 - m)
theorem kept_len (key : List UInt8) (m n : Nat) : (kept key m n).length = min m (n + 1) := by
  unfold kept
  rw [List.length_drop, full_len]; omega
theorem full_mem {key : List UInt8} {n : Nat} {x : List UInt8 × VT} (h : x ∈ full key n) : x.1 = key ∨ ∃ i, i < n ∧ x.1 = mk key i := by
  rcases List.mem_cons.1 h with rfl | h
  · exact .inl rfl
  · obtain ⟨i, hi, rfl⟩ := List.mem_map.1 h
    exact .inr ⟨i, List.mem_range.1 hi, rfl⟩
theorem full_nd (key : List UInt8) : ∀ {n : Nat}, n ≤ 256 → NdX (full key n)
  | 0, _ => by simp [NdX, full, oth]
  | n + 1, h => by
    have ih := full_nd key (n := n) (by omega)
    rw [full_succ]
    unfold NdX at *
    rw [List.map_append, List.nodup_append]
    refine ⟨ih, by simp, fun a ha b hb => ?_⟩
    obtain ⟨x, hx, rfl⟩ := List.mem_map.1 ha
    simp only [List.map_cons, List.map_nil, List.mem_singleton] at hb
    subst hb
    rcases full_mem hx with e | ⟨i, hi, e⟩
    · rw [e]; exact fun e2 => mk_ne key n e2.symm
    · rw [e]; intro e2; have := mk_inj (by omega) (by omega) e2; omega
theorem kept_nd (key : List UInt8) (m : Nat) {n : Nat} (h : n ≤ 256) : NdX (kept key m n) := nd_sub (List.drop_sublist _ _) (full_nd key h)
theorem kept_mem {key : List UInt8} {m n : Nat} {x : List UInt8 × VT} (h : x ∈ kept key m n) : x.1 = key ∨ ∃ i, i < n ∧ x.1 = mk key i := full_mem (List.mem_of_mem_drop h)
theorem kept_kb {key : List UInt8} {m n : Nat} (h : key.length ≤ 60) : KB (kept key m n) := fun x hx => by
  rcases kept_mem hx with e | ⟨i, _, e⟩
  · rw [e]; omega
  · rw [e]; simp [mk]; omega
theorem kept_step (key : List UInt8) {m n : Nat} (hm : 1 ≤ m) (h : n < 256) : putX m (kept key m n) (mk key n) ([], false) = kept key m (n + 1) := by
  have hwo : wo (kept key m n) (mk key n) = kept key m n := wo_same fun y hy => by
    rcases kept_mem hy with e | ⟨i, hi, e⟩
    · rw [e]; exact fun e2 => mk_ne key n e2.symm
    · rw [e]; intro e2; have := mk_inj (by omega) (by omega) e2; omega
  have hl := kept_len key m n
  by_cases hfit : n + 2 ≤ m
  · rw [(put_fit (by rw [hwo, hl]; omega)).2, hwo]
    unfold kept
    rw [show n + 1 - m = 0 by omega, show n + 1 + 1 - m = 0 by omega, List.drop_zero, List.drop_zero, full_succ]
  · have e1 : wo (kept key m n) (mk key n) ++ [(mk key n, (([] : List UInt8), false))] = (full key (n + 1)).drop (n + 1 - m) := by
      rw [hwo, full_succ, List.drop_append_of_le_length (by rw [full_len]; omega)]; rfl
    obtain ⟨y, ys, ey⟩ : ∃ y ys, (full key (n + 1)).drop (n + 1 - m) = y :: ys := by
      cases h9 : (full key (n + 1)).drop (n + 1 - m) with
      | nil =>
        have := congrArg List.length h9
        rw [List.length_drop, full_len] at this
        simp at this; omega
      | cons y ys => exact ⟨y, ys, rfl⟩
    have hys : ys.length + 1 = n + 2 - (n + 1 - m) := by
      have := congrArg List.length ey
      rw [List.length_drop, full_len] at this
      simp at this; omega
    rw [(put_out (e1.trans ey) (by omega)).2]
    unfold kept
    have : (full key (n + 1)).drop (n + 1 + 1 - m) = ((full key (n + 1)).drop (n + 1 - m)).drop 1 := by
      rw [List.drop_drop]; congr 1; omega
    rw [this, ey]; rfl
theorem kept_has (key : List UInt8) {m n : Nat} (hm : 1 ≤ m) : has (kept key m n) key = decide (n < m) := by
  by_cases h : n < m
  · rw [decide_eq_true h, has_iff]
    unfold kept
    rw [show n + 1 - m = 0 by omega]
    simp [full]
  · rw [decide_eq_false h]
    cases e : has (kept key m n) key with
    | false => rfl
    | true =>
      obtain ⟨y, hy, e2⟩ := List.mem_map.1 (has_iff.1 e)
      unfold kept at hy
      obtain ⟨q, hq⟩ : ∃ q, n + 1 - m = q + 1 := ⟨n - m, by omega⟩
      rw [hq] at hy
      have hy : y ∈ (oth key n).drop q := hy
      obtain ⟨i, _, rfl⟩ := List.mem_map.1 (List.mem_of_mem_drop hy)
      exact absurd e2 (mk_ne key i)
theorem begins_self (key t : List UInt8) : begins key (key ++ t) = true := by
  unfold begins
  exact List.isPrefixOf_iff_prefix.2 (List.prefix_append _ _)
theorem drop_all {xs : Xs} {key : List UInt8} (h : ∀ x ∈ xs, begins key x.1 = true) : dropX xs key = [] := by
  unfold dropX
  rw [List.filter_eq_nil_iff]
  intro x hx
  rw [h x hx]; decide
theorem kept_begins {key : List UInt8} {m n : Nat} : ∀ x ∈ kept key m n, begins key x.1 = true := fun x hx => by
  rcases kept_mem hx with e | ⟨i, _, e⟩
  · rw [e]; have := begins_self key []; rwa [List.append_nil] at this
  · rw [e]; exact begins_self key _
theorem get_begins {xs : Xs} {key : List UInt8} (h : ∀ x ∈ xs, begins key x.1 = true) : ∀ x ∈ getX xs key, begins key x.1 = true := fun x hx => by
  unfold getX at hx
  split at hx
  · rcases List.mem_append.1 hx with hx | hx
    · exact h x (wo_mem.1 hx).1
    · rw [List.mem_singleton] at hx; subst hx
      have := begins_self key []; rwa [List.append_nil] at this
  · exact h x hx
end Go.Proofs.Ytdjdcpbakeahcaa.Av.LruK
