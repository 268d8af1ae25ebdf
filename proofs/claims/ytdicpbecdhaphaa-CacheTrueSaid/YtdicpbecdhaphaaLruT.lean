/- lru: Keys, as a contract of the machine. No program's law is stated here. No conditions.. -/
import Derived.Test.YtdicpbecdhaphaaLruS
import Derived.Test.YtdicpbecdhaphaaVals
namespace Go.Proofs.Ytdicpbecdhaphaa.Av
open Go Go.RowKit
set_option linter.unusedVariables false
set_option linter.unusedSimpArgs false
section
variable {tk tL : TypeId} {zv : List Value} {w w' : World} {g m h : Nat} {ls : List Lk} {most most' : Int} {xs xs' : List (List UInt8 × List Value)}
/-- a function that tells a row of texts -/
theorem SM_keys {n : Nat} {ks : List (List UInt8)} {f : FuncId} {fn : Func} {vals : List Value} (hf : Try.prog.funcs[f]? = some fn) (hn : (fn.name == "runtime.NumGoroutine") = false) (hb : fn.body.isNone = false)
    (hc : ∀ w g m h ls, LruAt tk tL zv w g m h ls most → itemsOf ls = xs → Calls Try.prog f (pnt g :: vals).toArray w fun e w' => ∃ A' c', e = .returned (.slice A' n c') ∧ OwnT w' w.heap.size A' n c' ks ∧ Below w.heap.size w w') :
    SM f (.ptr 0 0 :: vals.map .ex) [lruB tk tL zv most xs] [.ptr 0 0] (.sl 1 n) [lruB tk tL zv most xs, ⟨ks.map T, some 9, false, true⟩] := by
  refine ⟨enters hf hn hb, fun w p c F us hs hr hB hF => ?_⟩
  obtain ⟨g, m, h, ls, hp, A, hx⟩ := lru_at hB
  have he := args_lru hp hs hr
  subst he
  refine (hc w g m h ls A hx).mono ?_
  rintro e w' ⟨A', c', rfl, hT, hBl⟩
  have hO : Only w (fun _ => False) w' := ⟨hBl.os, hBl.tape, hBl.output, hBl.size, fun k hk _ => hBl.block k hk⟩
  have A1 := A.only hO
  have hgl := heap_lt A.hd
  have hob := hB.ob 0 _ _ g rfl isOb_lru hp
  have hfp : ∀ x, hidB m h ls x → (lruOb tk tL zv most xs).fp w g x := fun x hh => ⟨m, h, ls, A, hx, hh⟩
  obtain ⟨hlen, hvl, hrow⟩ := hT
  obtain ⟨q, hq, hqq, hq2, hblk⟩ : ∃ q : Option Nat, A' = q.map (fun g => (⟨g, 0, none⟩ : Addr)) ∧ (∀ g2, q = some g2 → w.heap.size ≤ g2) ∧ n ≤ c' ∧ (∀ (p' : Nat → Option Nat) (cc : Nat → Nat), p' 1 = q → cc 1 = c' → BlkOk Try.prog w' (ltD 2) p' cc F 1 ⟨ks.map T, some 9, false, true⟩) := by
    rcases hrow with ⟨e1, e2⟩ | ⟨g2, cap, cur, e1, e2, e3, e4, e5, e6, e7⟩
    · injection e1 with a1 a2 a3
      subst a1 a3
      refine ⟨none, rfl, fun _ h => (by cases h), (by omega), fun p' cc h1 h2 => ?_⟩
      unfold BlkOk
      rw [h1]
      have : ks = [] := List.length_eq_zero_iff.1 (hlen.trans e2)
      subst this
      exact ⟨rfl, h2, by simp⟩
    · injection e1 with a1 a2 a3
      subst a1 a3
      refine ⟨some g2, rfl, fun _ h => (by injection h with h; omega), e4, fun p' cc h1 h2 => ?_⟩
      unfold BlkOk
      rw [h1]
      refine ⟨cur, _, (0, 0), e3, by simp, ?_, fun j hj => ?_, fun e he => ?_⟩
      · have hk : (ks.map T).length = n := by rw [List.length_map]; exact hlen
        show (ks.map T).length ≤ cur.size
        rw [hk, e6]; omega
      · have hj' : j < ks.length := by simpa using hj
        have h3 : cur.toList[j]? = some (.string (bs ks[j])) := by
          have h4 : (cur.toList.take (n * 1))[j]? = some (.string (bs ks[j])) := by
            rw [e7]
            simp [strsV, strV, hj']
          rw [List.getElem?_take] at h4
          split at h4
          · exact h4
          · cases h4
        have h5 : cur.getD j undef = .string (bs ks[j]) := by
          have : cur[j]? = some (.string (bs ks[j])) := by rw [← Array.getElem?_toList]; exact h3
          simp [Array.getD_eq_getD_getElem?, this]
        show Rep w' p' cc F noD (ks.map T)[j] _
        rw [h5, List.getElem_map]
        exact .ex _ _
      · injection he with he
        refine ⟨he, ?_, ?_⟩
        · subst he
          rw [h2, show sizeT Try.prog 9 = 1 by kernel_rfl]; exact e6
        · rw [h2]; exact e5
  subst hq
  have hp0 : setAt p 1 q 0 = some g := by rw [setAt_ne p _ (by decide)]; exact hp
  have hp1 : setAt p 1 q 1 = q := setAt_same ..
  have hc1 : setAt c 1 c' 1 = c' := setAt_same ..
  have hob1 : isOb (⟨ks.map T, some 9, false, true⟩ : ABlk) = none := isOb_el (by simp)
  refine ⟨_, setAt p 1 q, setAt c 1 c', F, rfl, (hO.held).wider (fun _ h => h.elim), fun g1 j hj => ⟨hj, ?_⟩, fun g1 j hj => ⟨Nat.lt_of_lt_of_le (hF g1 j hj) hO.size, .inl hj⟩, ⟨?_, ?_, ?_, ?_⟩, ?_, by simp, fun j hj => ?_, ?_⟩
  · have := hO.block g1 (hF g1 j hj) id
    simp [World.cell?, this]
  · intro i b hi
    match i, hi with
    | 0, hi =>
      injection hi with hi
      subst hi
      exact blk_lru hp0 A1
    | 1, hi =>
      injection hi with hi
      subst hi
      exact hblk _ _ hp1 hc1
  · intro i i' g1 hi hi' q1 q2
    match i, hi, i', hi' with
    | 0, _, 0, _ => rfl
    | 1, _, 1, _ => rfl
    | 0, _, 1, _ =>
      have e1 := Option.some.inj (hp0.symm.trans q1)
      have e2 := hqq g1 (hp1.symm.trans q2)
      exact absurd (e1 ▸ e2 : w.heap.size ≤ g) (Nat.not_le.2 hgl)
    | 1, _, 0, _ =>
      have e1 := Option.some.inj (hp0.symm.trans q2)
      have e2 := hqq g1 (hp1.symm.trans q1)
      exact absurd (e1 ▸ e2 : w.heap.size ≤ g) (Nat.not_le.2 hgl)
  · intro i b g1 j hi q1 hj
    match i, hi with
    | 0, hi =>
      have e1 := Option.some.inj (hp0.symm.trans q1)
      subst e1
      have := (hB.fz 0 _ g j rfl hp hj).1
      cases this
    | 1, hi =>
      have e2 := hqq g1 (hp1.symm.trans q1)
      exact absurd (hF g1 j hj) (Nat.not_lt.2 e2)
  · intro i b K g1 hi hK q1
    match i, hi with
    | 0, hi =>
      injection hi with hi
      subst hi
      rw [isOb_lru] at hK
      injection hK with hK
      subst hK
      have e1 := Option.some.inj (hp0.symm.trans q1)
      subst e1
      refine ⟨⟨m, h, ls, A1, hx⟩, fun x hf => ?_⟩
      have hh' := fp_inv A1 hx hf
      refine ⟨A1.lt hh', (hob.2 x (hfp x hh')).2.1, fun i' b' g' hi' q2 hne => ?_⟩
      match i', hi' with
      | 0, _ => exact absurd rfl hne
      | 1, hi' =>
        injection hi' with hi'
        subst hi'
        have e2 := hqq g' (hp1.symm.trans q2)
        have hl := A.lt hh'
        rintro (rfl | ⟨K, e1, _⟩)
        · exact absurd hl (Nat.not_lt.2 e2)
        · rw [hob1] at e1; cases e1
    | 1, hi =>
      injection hi with hi
      subst hi
      rw [hob1] at hK; cases hK
  · intro i b g1 x hi q1 hf
    match i, hi with
    | 0, hi =>
      injection hi with hi
      subst hi
      have e1 := Option.some.inj (hp0.symm.trans q1)
      subst e1
      refine .inr ⟨0, _, g, rfl, hp, ?_⟩
      rcases hf with rfl | ⟨K, e1, e2⟩
      · exact .inl rfl
      · rw [isOb_lru] at e1
        injection e1 with e1
        subst e1
        exact .inr ⟨_, isOb_lru, hfp x (fp_inv A1 hx e2)⟩
    | 1, hi =>
      injection hi with hi
      subst hi
      rcases hf with rfl | ⟨K, e1, _⟩
      · exact .inl (hqq _ (hp1.symm.trans q1))
      · rw [hob1] at e1; cases e1
  · match j, hj with
    | 0, _ => exact .ptr _ 0 0 g (by show 0 < 2; omega) hp0
  · have := Rep.sl (w := w') (p := setAt p 1 q) (c := setAt c 1 c') (F := F) (ltD 2) 1 n (by show 1 < 2; omega) (by rw [hc1]; exact hq2)
    rw [hp1, hc1] at this
    exact this
end
end Go.Proofs.Ytdicpbecdhaphaa.Av
