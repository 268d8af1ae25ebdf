/- tree: what begins with a text, and all others, are all: plain lists. No conditions. -/
import Derived.Test.YtdicpbecdhaphaaTree3
namespace Go.Proofs.Ytdicpbecdhaphaa.Tre
open Go
set_option linter.unusedVariables false
set_option linter.unusedSimpArgs false

theorem rankL_at {l : List Pr} (h : Srt l) {i : Nat} (hi : i < l.length) : rankL (l[i]).1 l = i := by
  have e : l = l.take i ++ l[i] :: l.drop (i + 1) := by rw [← List.drop_eq_getElem_cons hi, List.take_append_drop]
  obtain ⟨x, hx⟩ : ∃ x, x = l[i] := ⟨_, rfl⟩
  rw [← hx] at e ⊢
  have hs : Srt (l.take i ++ x :: l.drop (i + 1)) := by rw [← e]; exact h
  have h1 := hs.app_lt
  have h2 := List.pairwise_cons.1 hs.app_right
  unfold rankL
  rw [e, List.filter_append, List.filter_cons]
  rw [List.filter_eq_self.2 (fun a ha => h1 a ha x List.mem_cons_self), lt_irr]
  rw [List.filter_eq_nil_iff.2 (fun a ha => by rw [lt_asymm (h2.1 a ha)]; simp)]
  simp
  omega
theorem parts (p : Key) {l : List Pr} (h : Srt l) : ∃ A C, l = A ++ underL p l ++ C ∧ dropL p l = A ++ C ∧ A.length = rankL p l := by
  have hu := under_run (p := p) h
  obtain ⟨r, hr⟩ : ∃ r, r = rankL p l := ⟨_, rfl⟩
  rw [← hr] at hu
  have hrl : r ≤ l.length := by rw [hr]; exact List.length_filter_le _ _
  refine ⟨l.take r, (l.drop r).dropWhile (fun q => begins p q.1), ?_, ?_, by rw [List.length_take, ← hr]; omega⟩
  · rw [hu, List.append_assoc, List.takeWhile_append_dropWhile, List.take_append_drop]
  · have e : l = l.take r ++ (underL p l ++ (l.drop r).dropWhile (fun q => begins p q.1)) := by
      rw [hu, List.takeWhile_append_dropWhile, List.take_append_drop]
    obtain ⟨A, hA⟩ : ∃ A, A = l.take r := ⟨_, rfl⟩
    obtain ⟨C, hC⟩ : ∃ C, C = (l.drop r).dropWhile (fun q => begins p q.1) := ⟨_, rfl⟩
    obtain ⟨u, hu2⟩ : ∃ u, u = underL p l := ⟨_, rfl⟩
    have hlen : u.length = (underL p A).length + u.length + (underL p C).length := by
      have e1 : underL p l = underL p A ++ (underL p u ++ underL p C) := by
        conv => lhs; rw [e, ← hA, ← hC, ← hu2]
        unfold underL
        rw [List.filter_append, List.filter_append]
      have e2 : underL p u = u := by
        rw [hu2]; unfold underL; rw [List.filter_filter]; simp
      rw [e2] at e1
      have := congrArg List.length e1
      simp only [List.length_append] at this
      rw [← hu2] at this
      omega
    have nA : underL p A = [] := List.eq_nil_of_length_eq_zero (by omega)
    have nC : underL p C = [] := List.eq_nil_of_length_eq_zero (by omega)
    have drop_self : ∀ {m : List Pr}, underL p m = [] → dropL p m = m := by
      intro m hm
      unfold dropL
      rw [List.filter_eq_self]
      intro a ha
      have := List.filter_eq_nil_iff.1 hm a ha
      simpa using this
    have drop_u : dropL p u = [] := by
      rw [hu2]; unfold dropL underL
      rw [List.filter_filter, List.filter_eq_nil_iff]
      intro a _
      cases begins p a.1 <;> simp
    rw [← hA, ← hC]
    conv => lhs; rw [e, ← hA, ← hC, ← hu2]
    show dropL p (A ++ (u ++ C)) = _
    unfold dropL at *
    rw [List.filter_append, List.filter_append, drop_u, List.nil_append, drop_self nA, drop_self nC]
theorem under_drop (p : Key) (l : List Pr) : underL p (dropL p l) = [] := by
  unfold dropL underL
  rw [List.filter_filter, List.filter_eq_nil_iff]
  intro a _
  cases begins p a.1 <;> simp
theorem under_at {p : Key} {l : List Pr} (h : Srt l) {i : Nat} (hi : i < (underL p l).length) : rankL ((underL p l)[i]).1 l = rankL p l + i := by
  obtain ⟨A, C, e, _, e2⟩ := parts p h
  have hlen := congrArg List.length e
  simp only [List.length_append] at hlen
  have hg : l[A.length + i]'(by omega) = (underL p l)[i] := by
    have : l[A.length + i]? = some (underL p l)[i] := by
      conv => lhs; rw [e]
      rw [List.append_assoc, List.getElem?_append_right (by omega), List.getElem?_append_left (by omega), Nat.add_sub_cancel_left, List.getElem?_eq_getElem hi]
    rw [List.getElem?_eq_getElem (by omega)] at this
    exact Option.some.inj this
  have := rankL_at h (i := A.length + i) (by omega)
  rw [hg] at this
  rw [this, e2]
theorem back_put {A u C : List Pr} (h : Srt (A ++ u ++ C)) {i : Nat} (hi : i < u.length) : putL (u[i]).1 (u[i]).2 (A ++ u.drop (i + 1) ++ C) = A ++ u.drop i ++ C := by
  have e : u = u.take i ++ u[i] :: u.drop (i + 1) := by rw [← List.drop_eq_getElem_cons hi, List.take_append_drop]
  obtain ⟨x, hx⟩ : ∃ x, x = u[i] := ⟨_, rfl⟩
  have e2 : u.drop i = x :: u.drop (i + 1) := by rw [hx]; exact List.drop_eq_getElem_cons hi
  rw [← hx, e2]
  rw [List.append_assoc] at h
  have hxu : x ∈ u := by rw [hx]; exact List.getElem_mem hi
  have h1 : ∀ a ∈ A, lt a.1 x.1 = true := fun a ha => h.app_lt a ha x (List.mem_append_left _ hxu)
  have h2 : Srt (u ++ C) := h.app_right
  rw [e, ← hx] at h2
  have h3 : Srt (x :: (u.drop (i + 1) ++ C)) := by
    rw [List.append_assoc, List.cons_append] at h2
    exact h2.app_right
  have h4 := (List.pairwise_cons.1 h3).1
  rw [List.append_assoc, putL_less _ h1, putL_more h4]
  simp
end Go.Proofs.Ytdicpbecdhaphaa.Tre
