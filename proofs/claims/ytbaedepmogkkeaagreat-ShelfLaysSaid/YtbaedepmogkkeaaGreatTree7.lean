/- tree: put, taken away, dropped, and ops, walked. No conditions but that sizes stay far below what memory holds. -/
import Derived.Test.YtbaedepmogkkeaaGreatTree6
namespace Go.Proofs.YtbaedepmogkkeaaGreat.Av
set_option maxHeartbeats 1000000
open Go Go.RowKit Tre
set_option linter.unusedVariables false
set_option linter.unusedSimpArgs false
set_option maxRecDepth 100000

theorem tput_ok {t : Tr} {k v : Key} (h : More t k v) : SP 60 [trA t, T k, T v] (trA (Tr.put k v t)) := by
  have c := put_ok t h
  refine S_ Tryz.func60 (by kernel_rfl) rfl (Nat.le_of_ble_eq_true rfl) ?_
  show avc Tryz.prog SP _ _ _ _ _ _
  dsimp only [avc, startS, Array.toList, Tryz.f60]
  exact Av.W
theorem tdel_ok {t : Tr} {k : Key} (h : Big t) (hg : Srt t.toL) : SP 118 [trA t, T k] (trA (Tr.del k t)) := by
  have c := get_ok t k _ rfl
  unfold Tr.del
  cases hq : Tr.get k t with
  | none =>
    rw [hq] at c
    refine S_ Tryz.func118 (by kernel_rfl) rfl (Nat.le_of_ble_eq_true rfl) ?_
    show avc Tryz.prog SP _ _ _ _ _ _
    dsimp only [avc, startS, Array.toList, Tryz.f118]
    exact Av.W
  | some v =>
    rw [hq] at c
    have s := split_ok (key := k) t h
    have z := Tr.split_sizes (key := k) (t := t)
    have hc := h.c
    have hw := h.w
    have p1 := Tr.cn_pos (Tr.split k t).1
    have p2 := Tr.wt_pos (Tr.split k t).1
    have p3 := Tr.cn_pos (Tr.split k t).2
    have p4 := Tr.wt_pos (Tr.split k t).2
    have hne : (Tr.split k t).2 ≠ .nil := fun e => by
      obtain ⟨s1, s2, s3⟩ := Tr.split_toL (key := k) hg
      rw [Tr.get_toL hg] at hq
      have hm := getL_mem hq
      rw [← s1, e] at hm
      have := s2 _ (by simpa [Tr.toL] using hm)
      rw [lt_irr] at this; cases this
    have f := first_ok _ hne ⟨by omega, by omega⟩
    have fz := Tr.first_sizes hne
    have b := both_ok (l := (Tr.split k t).1) (r := (Tr.first (Tr.split k t).2).2.2) ⟨by omega, by omega⟩ ⟨by omega, by omega⟩ (by omega) (by omega)
    show SP _ _ (trA (Tr.both (Tr.split k t).1 (Tr.first (Tr.split k t).2).2.2))
    refine S_ Tryz.func118 (by kernel_rfl) rfl (Nat.le_of_ble_eq_true rfl) ?_
    show avc Tryz.prog SP _ _ _ _ _ _
    dsimp only [avc, startS, Array.toList, Tryz.f118]
    exact Av.W
theorem tdrop_ok {t : Tr} {p : Key} (h : Big t) (hp : p.length ≤ 1000000000) : SP 119 [trA t, T p] (trA (Tr.drop p t)) := by
  have c := beyond_ok p hp _ rfl
  have s := split_ok (key := p) t h
  have z := Tr.split_sizes (key := p) (t := t)
  have hc := h.c
  have hw := h.w
  have p1 := Tr.cn_pos (Tr.split p t).1
  have p2 := Tr.wt_pos (Tr.split p t).1
  have p3 := Tr.cn_pos (Tr.split p t).2
  have p4 := Tr.wt_pos (Tr.split p t).2
  unfold Tr.drop
  cases hq : beyond p with
  | none =>
    rw [hq] at c
    refine S_ Tryz.func119 (by kernel_rfl) rfl (Nat.le_of_ble_eq_true rfl) ?_
    show avc Tryz.prog SP _ _ _ _ _ _
    dsimp only [avc, startS, Array.toList, Tryz.f119]
    exact Av.W
  | some e =>
    rw [hq] at c
    have s2 := split_ok (key := e) (Tr.split p t).2 ⟨by omega, by omega⟩
    have z2 := Tr.split_sizes (key := e) (t := (Tr.split p t).2)
    have q1 := Tr.cn_pos (Tr.split e (Tr.split p t).2).1
    have q2 := Tr.wt_pos (Tr.split e (Tr.split p t).2).1
    have b := both_ok (l := (Tr.split p t).1) (r := (Tr.split e (Tr.split p t).2).2) ⟨by omega, by omega⟩ ⟨by omega, by omega⟩ (by omega) (by omega)
    show SP _ _ (trA (Tr.both (Tr.split p t).1 (Tr.split e (Tr.split p t).2).2))
    refine S_ Tryz.func119 (by kernel_rfl) rfl (Nat.le_of_ble_eq_true rfl) ?_
    show avc Tryz.prog SP _ _ _ _ _ _
    dsimp only [avc, startS, Array.toList, Tryz.f119]
    exact Av.W
/-! ### ops -/
def opC (os : List OpP) : List AV := os.flatMap fun o => [.ex (.int .u8 o.1), T o.2.1, T o.2.2]
theorem opC_len (os : List OpP) : (opC os).length = os.length * 3 := by
  induction os with
  | nil => rfl
  | cons o os ih => simp only [opC, List.flatMap_cons, List.length_append, List.length_cons, List.length_nil] at ih ⊢; omega
theorem opC_at {os : List OpP} {i : Nat} (h : i < os.length) : ∀ j v, ([.ex (.int .u8 (os[i]).1), T (os[i]).2.1, T (os[i]).2.2] : List AV)[j]? = some v → (opC os)[i * 3 + j]? = some v := by
  induction os generalizing i with
  | nil => simp at h
  | cons o os ih =>
    intro j v hv
    have e : opC (o :: os) = [.ex (.int .u8 o.1), T o.2.1, T o.2.2] ++ opC os := rfl
    cases i with
    | zero =>
      simp only [List.getElem_cons_zero] at hv
      have hj := (List.getElem?_eq_some_iff.1 hv).1
      rw [e, Nat.zero_mul, Nat.zero_add, List.getElem?_append_left hj]
      exact hv
    | succ i =>
      have := ih (i := i) (by simpa using h) j v (by simpa using hv)
      rw [e, List.getElem?_append_right (by simp; omega)]
      rw [← this]
      congr 1
      simp; omega
theorem hsO : sizeT Tryz.prog 82 = 3 := by kernel_rfl
/-- an op read as a whole -/
theorem opW {os : List OpP} {i : Nat} (h : i < os.length) : ([.ex (.int .u8 (os[i]).1), T (os[i]).2.1, T (os[i]).2.2] : List AV).length = sizeT Tryz.prog 82 ∧ ∀ j v, ([.ex (.int .u8 (os[i]).1), T (os[i]).2.1, T (os[i]).2.2] : List AV)[j]? = some v → (opC os)[mulS (i : Int).toNat (sizeT Tryz.prog 82) + j]? = some v := by
  rw [hsO, mulS_eq, Int.toNat_natCast]
  exact ⟨rfl, opC_at h⟩
/-- the tree that ops make stays so small -/
def OpsOk (t : Tr) (os : List OpP) : Prop := t.cn + (os.length : Int) ≤ 100000000 ∧ (∀ o ∈ os, o.2.1.length ≤ 1000000 ∧ o.2.2.length ≤ 1000000) ∧ t.wt + (os.length : Int) * 2000004 ≤ 300000000
theorem step_sizes {t : Tr} (h : Tr.Good t) (o : OpP) : (t.step o).cn ≤ t.cn + 1 ∧ (t.step o).wt ≤ t.wt + 4 + (o.2.1.length : Int) + (o.2.2.length : Int) := by
  obtain ⟨h1, h2⟩ := h.step o
  have := stepL_len o t.toL
  rw [Tr.cn_len, Tr.cn_len, Tr.wt_len, Tr.wt_len, h2]
  omega
theorem OpsOk.step {t : Tr} {o : OpP} {os : List OpP} (hg : Tr.Good t) (h : OpsOk t (o :: os)) : OpsOk (t.step o) os := by
  obtain ⟨h1, h2, h3⟩ := h
  have s := step_sizes hg o
  have := h2 o (by simp)
  simp only [List.length_cons, Int.natCast_add] at h1 h3
  refine ⟨by omega, fun x hx => h2 x (List.mem_cons_of_mem _ hx), ?_⟩
  have e : ((os.length : Int) + ((1 : Nat) : Int)) * 2000004 = (os.length : Int) * 2000004 + 2000004 := by omega
  omega
theorem apply_drop (os : List OpP) (i : Nat) (h : i < os.length) (t : Tr) : Tr.apply (os.drop i) t = Tr.apply (os.drop (i + 1)) (t.step os[i]) := by
  rw [List.drop_eq_getElem_cons h]; rfl
theorem tapply_ok {t : Tr} {os : List OpP} (hg : Tr.Good t) (h : OpsOk t os) (res : Tr) (hres : Tr.apply os t = res) : SP 54 [trA t, .vs os.length (opC os)] (trA res) := by
  have hlen : (os.length : Int) ≤ 100000000 := by have := Tr.cn_pos t; have := h.1; omega
  refine S_ Tryz.func54 (by kernel_rfl) rfl (Nat.le_of_ble_eq_true rfl) ?_
  show avc Tryz.prog SP _ _ _ _ _ _
  dsimp only [avc, startS, Array.toList, Tryz.f54]
  refine Av.Wk ?_
  refine ⟨[9, 7, 8, 2, 4], [], fun vs bl => ∃ (s : Tr) (i : Nat), i ≤ os.length ∧ Tr.Good s ∧ OpsOk s (os.drop i) ∧ Tr.apply (os.drop i) s = res ∧ (vs = [Z i, .vs os.length (opC os), Z os.length, .ptr 0 0, .ptr 1 0] ∧ bl = [⟨[ndA s], none, false, true⟩, ⟨[.ex (.pointer none)], none, false, true⟩]), fun vs bl => match vs with | .ex (.int _ i) :: _ => os.length - i.toNat | _ => 0, ?_, ?_⟩
  · exact ⟨t, 0, by omega, hg, by rw [List.drop_zero]; exact h, by rw [List.drop_zero]; exact hres, rfl, rfl⟩
  rintro vs bl ⟨s, i, hi, hs, ho, hr, rfl, rfl⟩
  by_cases hlt : i < os.length
  · have hw := opW hlt
    have hr2 := hr
    rw [apply_drop os i hlt s] at hr2
    have ho2 := ho
    rw [List.drop_eq_getElem_cons hlt] at ho2
    have ho3 := ho2.step hs
    have hs3 := (hs.step os[i]).1
    have hz := ho2.2.1 os[i] List.mem_cons_self
    have hsz1 := ho2.1
    have hsz2 := ho2.2.2
    have q1 := Tr.cn_pos s
    have q2 := Tr.wt_pos s
    simp only [List.length_cons, Int.natCast_add] at hsz1 hsz2
    have hdec : os.length - ((i : Int) + 1).toNat < os.length - (i : Int).toNat := by omega
    clear hres hr ho ho2
    obtain ⟨o, hoe⟩ : ∃ o, o = os[i] := ⟨_, rfl⟩
    rw [← hoe] at hw hr2 ho3 hs3 hz
    by_cases k1 : o.1 = 1
    · have e : s.step o = Tr.put o.2.1 o.2.2 s := if_pos k1
      rw [e] at hr2 ho3 hs3
      have c := tput_ok (t := s) (k := o.2.1) (v := o.2.2) ⟨by omega, by omega⟩
      rw [k1] at hw
      refine Av.Wk ?_
      exact ⟨⟨_, i + 1, by omega, hs3, ho3, hr2, rfl, rfl⟩, hdec⟩
    · by_cases k2 : o.1 = 2
      · have e : s.step o = Tr.del o.2.1 s := (if_neg k1).trans (if_pos k2)
        rw [e] at hr2 ho3 hs3
        have c := tdel_ok (t := s) (k := o.2.1) ⟨by omega, by omega⟩ hs.srt
        rw [k2] at hw
        refine Av.Wk ?_
        exact ⟨⟨_, i + 1, by omega, hs3, ho3, hr2, rfl, rfl⟩, hdec⟩
      · by_cases k3 : o.1 = 3
        · have e : s.step o = Tr.drop o.2.1 s := (if_neg k1).trans ((if_neg k2).trans (if_pos k3))
          rw [e] at hr2 ho3 hs3
          have c := tdrop_ok (t := s) (p := o.2.1) ⟨by omega, by omega⟩ (by omega)
          rw [k3] at hw
          refine Av.Wk ?_
          exact ⟨⟨_, i + 1, by omega, hs3, ho3, hr2, rfl, rfl⟩, hdec⟩
        · have e : s.step o = s := (if_neg k1).trans ((if_neg k2).trans (if_neg k3))
          rw [e] at hr2 ho3 hs3
          refine Av.Wk ?_
          exact ⟨⟨_, i + 1, by omega, hs3, ho3, hr2, rfl, rfl⟩, hdec⟩
  · have hie : i = os.length := by omega
    subst hie
    rw [List.drop_length] at hr
    have : res = s := hr.symm
    subst this
    clear hres hr ho
    exact Av.W
end Go.Proofs.YtbaedepmogkkeaaGreat.Av
