/- cache: the laws' own helpers: ops that come in, over, awake. No conditions but those on lengths. -/
import Derived.Test.YtdicpbecdhaphaaCach2
namespace Go.Proofs.Ytdicpbecdhaphaa.Av.LruK
open Go Go.RowKit Pre
set_option linter.unusedVariables false
set_option linter.unusedSimpArgs false
set_option maxRecDepth 100000
set_option maxHeartbeats 4000000
abbrev OpK := Nat × List UInt8 × List UInt8
abbrev opc (o : OpK) : List AV := [.ex (.int .u8 o.1), T o.2.1, T o.2.2]
def opL (l : List OpK) : List AV := l.flatMap opc
theorem opL_at {l : List OpK} {i : Nat} (h : i < l.length) : ∀ j v, (opc (l[i]))[j]? = some v → (opL l)[i * 3 + j]? = some v := by
  induction l generalizing i with
  | nil => simp at h
  | cons o l ih =>
    intro j v hv
    have e : opL (o :: l) = opc o ++ opL l := rfl
    cases i with
    | zero =>
      simp only [List.getElem_cons_zero] at hv
      have hj := (List.getElem?_eq_some_iff.1 hv).1
      rw [e, Nat.zero_mul, Nat.zero_add, List.getElem?_append_left hj]
      exact hv
    | succ i =>
      have := ih (i := i) (by simpa using h) j v (by simpa using hv)
      rw [e, List.getElem?_append_right (by simp; omega)]
      rw [← this]
      congr 1
      simp; omega
theorem hsO : sizeT Try.prog 85 = 3 := by kernel_rfl
theorem opW {l : List OpK} {i : Nat} (h : i < l.length) : (opc (l[i])).length = sizeT Try.prog 85 ∧ ∀ j v, (opc (l[i]))[j]? = some v → (opL l)[mulS (i : Int).toNat (sizeT Try.prog 85) + j]? = some v := by
  rw [hsO, mulS_eq, Int.toNat_natCast]; exact ⟨rfl, opL_at h⟩
theorem opK {l : List OpK} {i : Nat} (h : i < l.length) : (opL l)[mulS (i : Int).toNat (sizeT Try.prog 85) + 1]? = some (T (l[i]).2.1) := (opW h).2 1 _ rfl
theorem opT {l : List OpK} {i : Nat} (h : i < l.length) : (opL l)[mulS (i : Int).toNat (sizeT Try.prog 85) + 2]? = some (T (l[i]).2.2) := (opW h).2 2 _ rfl
abbrev opA (l : List OpK) : AV := .vs l.length (opL l)
/-- not too many, and no text too long -/
def OkL (l : List OpK) : Prop := l.length ≤ 60 ∧ ∀ o ∈ l, o.2.1.length ≤ 60 ∧ o.2.2.length ≤ 60
theorem over_ok (l : List OpK) (b : Bool) (hb : b = false ↔ OkL l) (hn : l.length ≤ 9223372036854775807) : SP 44 [opA l] (B b) := by
  by_cases h60 : l.length ≤ 60
  · refine S_ Try.func44 (by kernel_rfl) rfl (Nat.le_of_ble_eq_true rfl) ?_ -- G
    refine Av.Wk ?_
    refine ⟨[3, 0], [], fun vs bl => ∃ i : Nat, i ≤ l.length ∧ (∀ j (h : j < l.length), j < i → (l[j]).2.1.length ≤ 60 ∧ (l[j]).2.2.length ≤ 60) ∧ (vs = [Z i, opA l] ∧ bl = []), muI l.length, ?_, ?_⟩
    · exact ⟨0, Nat.zero_le _, fun j h h0 => by omega, rfl, rfl⟩
    rintro vs bl ⟨i, hi, hj, rfl, rfl⟩
    by_cases hlt : i < l.length
    · have h1 := opK hlt
      have h2 := opT hlt
      have hs := bs_size (l[i]).2.1
      have hs2 := bs_size (l[i]).2.2
      have hdec : muI l.length [Z ((i : Int) + 1)] [] < muI l.length [Z i] [] := by show l.length - ((i : Int) + 1).toNat < l.length - (i : Int).toNat; omega
      by_cases hk : (l[i]).2.1.length ≤ 60 ∧ (l[i]).2.2.length ≤ 60
      · have fin : ∀ j (h : j < l.length), j < i + 1 → (l[j]).2.1.length ≤ 60 ∧ (l[j]).2.2.length ≤ 60 := fun j h h0 => by
          by_cases e : j = i
          · subst e; exact hk
          · exact hj j h (by omega)
        clear hb hj
        refine Av.Wk ?_
        exact ⟨⟨i + 1, by omega, fin, rfl, rfl⟩, hdec⟩
      · have e : b = true := by
          cases b with
          | true => rfl
          | false => exact absurd ((hb.1 rfl).2 _ (List.getElem_mem hlt)) hk
        subst e
        clear hb hj
        exact Av.W
    · obtain rfl : i = l.length := by omega
      have e : b = false := hb.2 ⟨h60, fun o ho => by
        obtain ⟨j, h, rfl⟩ := List.getElem_of_mem ho
        exact hj j h h⟩
      subst e
      clear hb hj
      exact Av.W
  · have e : b = true := by
      cases b with
      | true => rfl
      | false => exact absurd (hb.1 rfl).1 h60
    subst e
    clear hb
    refine S_ Try.func44 (by kernel_rfl) rfl (Nat.le_of_ble_eq_true rfl) ?_
    show avc Try.prog SP _ _ _ _ _ _
    dsimp only [avc, startS, Array.toList, Try.f44]
    exact Av.W
theorem awake_ok : SP 45 [] (B true) := by
  have n1 := cnew_yes 1 (by decide)
  have n2 := cnew_no 65 (by decide)
  have k1 := clook_no 1 [] 0 0 [97] rfl (by decide) (by decide)
  have m1 : SM _ _ _ _ _ (Ch 1 [([97], [], false)] 0 (0 + 1)) := cmiss_c 1 [] 0 (0 + 1) [97] (by decide)
  have k2 : SM _ _ _ _ (.tup [T [], B false, B true]) (Ch 1 [([97], [], false)] (0 + 1) (0 + 1)) := clook_yes 1 [([97], [], false)] 0 (0 + 1) [97] rfl (by decide) (by decide)
  have m2 : SM _ _ _ _ _ (Ch 1 [([98], [120], true)] (0 + 1) (0 + 1)) := cnote_c 1 [([97], [], false)] (0 + 1) (0 + 1) [98] [120] (by decide)
  have k3 : SM _ _ _ _ (.tup [T [120], B true, B true]) (Ch 1 [([98], [120], true)] (0 + 1 + 1) (0 + 1)) := clook_yes 1 [([98], [120], true)] (0 + 1) (0 + 1) [98] rfl (by decide) (by decide)
  have k4 := clook_no 1 [([98], [120], true)] (0 + 1 + 1) (0 + 1) [97] rfl (by decide) (by decide)
  have h1 := chits_c 1 [([98], [120], true)] (0 + 1 + 1) (0 + 1 + 1)
  have l1 := clen_c 1 [([98], [120], true)] (0 + 1 + 1) (0 + 1 + 1)
  have s1 := cmost_c 1 [([98], [120], true)] (0 + 1 + 1) (0 + 1 + 1)
  have d1 : SM _ _ _ _ (B true) (Ch 1 [] (0 + 1 + 1) (0 + 1 + 1)) := cforget_c 1 [([98], [120], true)] (0 + 1 + 1) (0 + 1 + 1) [98]
  have d2 : SM _ _ _ _ (B false) (Ch 1 [] (0 + 1 + 1) (0 + 1 + 1)) := cforget_c 1 [] (0 + 1 + 1) (0 + 1 + 1) [98]
  have l2 := clen_c 1 [] (0 + 1 + 1) (0 + 1 + 1)
  refine S_ Try.func45 (by kernel_rfl) rfl (Nat.le_of_ble_eq_true rfl) ?_
  show avc Try.prog SP _ _ _ _ _ _
  dsimp only [avc, startS, Array.toList, Try.f45]
  exact Av.W
end Go.Proofs.Ytdicpbecdhaphaa.Av.LruK
