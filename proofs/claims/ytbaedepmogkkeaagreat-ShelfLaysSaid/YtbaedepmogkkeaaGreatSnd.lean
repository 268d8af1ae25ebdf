/- From contracts to Sound: functions whose contracts were walked, as the abstract machine calls them. No program's law is stated here. No conditions but that lengths stay far below what memory holds. -/
import Derived.Test.YtbaedepmogkkeaaGreatCore
import Derived.Test.YtbaedepmogkkeaaGreatArgs
import Derived.Test.YtbaedepmogkkeaaGreatQuillWalks2
namespace Go.Proofs.YtbaedepmogkkeaaGreat.Av
open Go Go.RowKit
set_option linter.unusedVariables false
set_option maxRecDepth 100000
set_option linter.unusedSimpArgs false

theorem bytesA_length (l : List UInt8) : (bytesA l).length = l.length := by simp [bytesA]
theorem bytesA_at {l : List UInt8} {j : Nat} (h : j < (bytesA l).length) : (bytesA l)[j] = .ex (byteV (byteAt l j)) := by
  have h' : j < l.length := by rw [← bytesA_length]; exact h
  rw [byteAt_lt h']; simp [bytesA, byteA, byteV]
theorem rdB_of {w : World} {p : Nat → Option Nat} {c : Nat → Nat} {F : Nat → Nat → Prop} {D : Nat → Prop} {l : List UInt8} {x : Value} (h : Rep w p c F D (.vs l.length (bytesA l)) x) : ∃ A k, x = .slice A l.length k ∧ RdB w A l.length l := by
  rcases h.vs_inv with ⟨h1, h2, rfl⟩ | ⟨g, o, k, u, h1, rfl, h2⟩
  · have : l = [] := List.eq_nil_of_length_eq_zero h1
    subst this
    exact ⟨none, 0, rfl, RdB.nil_ _ _⟩
  · refine ⟨_, k, rfl, rfl, fun _ => ⟨_, rfl, fun j hj => ?_⟩⟩
    have hj' : j < (bytesA l).length := by rw [bytesA_length]; exact hj
    rw [addr_add, (h2.1 j hj').2]
    have := h2.2 j hj'
    rw [bytesA_at hj'] at this
    rw [this.ex_inv]
theorem size_u8 : sizeT Tryz.prog 5 = 1 := by kernel_rfl
theorem own_of {w w' : World} {F : Nat → Nat → Prop} {A : Option Addr} {n k : Nat} {l : List UInt8} (h : OwnB w' w.heap.size A n k l) (hF : ∀ g j, F g j → g < w.heap.size) :
    OwnOk Tryz.prog w.heap.size w' p0 c0 F 5 l.length (bytesA l) (.slice A n k) := by
  cases A with
  | none =>
    have h1 := h.1
    rcases h.2.2 with ⟨hv, hn⟩ | ⟨g, cap, cur, hv, _⟩
    · injection hv with _ hv1 hv2
      subst hv1 hv2
      have : l = [] := List.eq_nil_of_length_eq_zero h1
      subst this
      exact .inl ⟨rfl, rfl, rfl⟩
    · injection hv with h0; cases h0
  | some a =>
    obtain ⟨g, cur, hA, hb, hg, hnc, hcm, hcs, htk⟩ := h.row (by simp)
    injection hA with hA
    subst hA
    have hn := h.1
    refine .inr ⟨g, k, cur, (0, 0), by rw [hn], hb, by omega, by unfold maxLen at hcm; omega, hg, by simp, by rw [size_u8, hcs, Nat.mul_one], by rw [bytesA_length]; omega, fun j hj => ?_, fun j hj => by have := hF g j hj; omega⟩
    rw [bytesA_at hj]
    have hj' : j < l.length := by rw [← bytesA_length]; exact hj
    have e : cur.getD j undef = byteV (byteAt l j) := by
      have h1 : (cur.toList.take n)[j]? = (bytesV l)[j]? := by rw [htk]
      rw [List.getElem?_take_of_lt (by omega), bytesV_at hj'] at h1
      have hj2 : j < cur.size := by omega
      simp [hj2] at h1 ⊢
      exact h1
    rw [e]; exact .ex _ _
/-- a function of bytes that hands bytes over -/
theorem sound_bytes {f : FuncId} {fn : Func} {l r : List UInt8} {vs : List Value} (hf : Tryz.prog.funcs[f]? = some fn) (hn : (fn.name == "runtime.NumGoroutine") = false) (hb : fn.body.isNone = false)
    (h : ∀ w A n k, RdB w A n l → Calls Tryz.prog f (.slice A n k :: vs).toArray w (RetB w.heap.size w r)) (a : AV) (ha : a = .vs l.length (bytesA l) ∨ (a = nilA ∧ l = [])) : SP f (a :: vs.map .ex) (.own 5 r.length (bytesA r)) := by
  refine ⟨enters hf hn hb, fun w F xs hs hr hF => ?_⟩
  have h0 : ∃ A k, xs.getD 0 undef = .slice A l.length k ∧ RdB w A l.length l := by
    have := hr 0 (by simp)
    simp only [List.getElem_cons_zero] at this
    rcases ha with rfl | ⟨rfl, rfl⟩
    · exact rdB_of this
    · exact ⟨none, 0, this.ex_inv, RdB.nil_ _ _⟩
  obtain ⟨A, k, e0, hrd⟩ := h0
  have : xs = (.slice A l.length k :: vs).toArray := by
    apply Array.ext'
    apply List.ext_getElem?
    intro j
    cases j with
    | zero =>
      have hj2 : 0 < xs.size := by rw [hs]; simp
      simp [hj2] at e0
      simp [hj2, e0]
    | succ j =>
      by_cases hj : j < vs.length
      · have h1 := hr (j + 1) (by simpa using hj)
        simp only [List.getElem_cons_succ, List.getElem_map] at h1
        have h2 := h1.ex_inv
        have hj2 : j + 1 < xs.size := by rw [hs]; simpa using hj
        simp [hj2] at h2
        simp [hj2, hj, h2]
      · rw [List.getElem?_eq_none (by simp [hs]; omega), List.getElem?_eq_none (by simp; omega)]
  rw [this]
  refine (h w A l.length k hrd).mono ?_
  rintro e w' ⟨A', n', k', rfl, ho, hbl⟩
  exact ⟨_, F, rfl, hbl, fun _ _ h => h, fun _ _ h => .inl h, own_of ho hF⟩
/-- a function of bytes that hands bytes over, and an error -/
theorem sound_bytesE {f : FuncId} {fn : Func} {l r : List UInt8} {vs : List Value} {er : Int} (hf : Tryz.prog.funcs[f]? = some fn) (hn : (fn.name == "runtime.NumGoroutine") = false) (hb : fn.body.isNone = false)
    (h : ∀ w A n k, RdB w A n l → Calls Tryz.prog f (.slice A n k :: vs).toArray w (RetBE w.heap.size w r er)) (a : AV) (ha : a = .vs l.length (bytesA l) ∨ (a = nilA ∧ l = [])) : SP f (a :: vs.map .ex) (.tup [.own 5 r.length (bytesA r), Z er]) := by
  refine ⟨enters hf hn hb, fun w F xs hs hr hF => ?_⟩
  have h0 : ∃ A k, xs.getD 0 undef = .slice A l.length k ∧ RdB w A l.length l := by
    have := hr 0 (by simp)
    simp only [List.getElem_cons_zero] at this
    rcases ha with rfl | ⟨rfl, rfl⟩
    · exact rdB_of this
    · exact ⟨none, 0, this.ex_inv, RdB.nil_ _ _⟩
  obtain ⟨A, k, e0, hrd⟩ := h0
  have : xs = (.slice A l.length k :: vs).toArray := by
    apply Array.ext'
    apply List.ext_getElem?
    intro j
    cases j with
    | zero =>
      have hj2 : 0 < xs.size := by rw [hs]; simp
      simp [hj2] at e0
      simp [hj2, e0]
    | succ j =>
      by_cases hj : j < vs.length
      · have h1 := hr (j + 1) (by simpa using hj)
        simp only [List.getElem_cons_succ, List.getElem_map] at h1
        have h2 := h1.ex_inv
        have hj2 : j + 1 < xs.size := by rw [hs]; simpa using hj
        simp [hj2] at h2
        simp [hj2, hj, h2]
      · rw [List.getElem?_eq_none (by simp [hs]; omega), List.getElem?_eq_none (by simp; omega)]
  rw [this]
  refine (h w A l.length k hrd).mono ?_
  rintro e w' ⟨A', n', k', rfl, ho, hbl⟩
  refine ⟨_, F, rfl, hbl, fun _ _ h => h, fun _ _ h => .inl h, [.slice A' n' k', .int .i64 er], rfl, own_of ho hF, rfl, fun j hj => ?_⟩
  have : j = 0 := by simpa using hj
  subst this
  exact .ex _ _
end Go.Proofs.YtbaedepmogkkeaaGreat.Av
