/- lru: a contract on an Lru in memory, as a contract of the machine. No program's law is stated here. No conditions. -/
import Derived.Test.YtdicpbecdhaphaaLru5
import Derived.Test.YtdicpbecdhaphaaCore
namespace Go.Proofs.Ytdicpbecdhaphaa.Av
open Go Go.RowKit
set_option linter.unusedVariables false
set_option linter.unusedSimpArgs false

section
variable {tk tL : TypeId} {zv : List Value} {w w' : World} {g m h : Nat} {ls : List Lk} {most most' : Int} {xs xs' : List (List UInt8 × List Value)}
theorem isOb_lru : isOb (lruB tk tL zv most xs) = some (lruOb tk tL zv most xs) := rfl
theorem Held.wider {S S' : Nat → Prop} (hh : Held ⟨w, S, #[], []⟩ w') (hs : ∀ x, S x → S' x) : Held ⟨w, S', #[], []⟩ w' :=
  ⟨hh.os, hh.tape, hh.output, hh.size, fun k hk => hh.block k fun e => hk (e.elim .inl fun e => .inr (hs k e))⟩
/-- where it lies -/
theorem lru_at {p : Nat → Option Nat} {c : Nat → Nat} {F : Nat → Nat → Prop} (hB : BlksOk Try.prog w p c F [lruB tk tL zv most xs]) : ∃ g m h ls, p 0 = some g ∧ LruAt tk tL zv w g m h ls most ∧ itemsOf ls = xs := by
  have hl := hB.live 0 _ rfl
  unfold BlkOk at hl
  cases hp : p 0 with
  | none => rw [hp] at hl; exact absurd rfl hl.2.2
  | some g =>
    obtain ⟨⟨m, h, ls, A, e⟩, _⟩ := hB.ob 0 _ _ g rfl isOb_lru hp
    exact ⟨g, m, h, ls, rfl, A, e⟩
/-- what is so after a turn -/
theorem lru_after {p : Nat → Option Nat} {c : Nat → Nat} {F : Nat → Nat → Prop} (hB : BlksOk Try.prog w p c F [lruB tk tL zv most xs]) (hF : ∀ g j, F g j → g < w.heap.size) (hp : p 0 = some g) (A : LruAt tk tL zv w g m h ls most) (hx : itemsOf ls = xs)
    (hT : LruTurn tk tL zv w g m h ls w' most' xs') :
    Held ⟨w, inM w p [lruB tk tL zv most xs], #[], []⟩ w' ∧ (∀ g j, F g j → w'.cell? ⟨g, j, none⟩ = w.cell? ⟨g, j, none⟩) ∧ BlksOk Try.prog w' p c F [lruB tk tL zv most' xs'] ∧
      (∀ i b g x, [lruB tk tL zv most' xs'][i]? = some b → p i = some g → foot w' b g x → (Ori.mk w (inM w p [lruB tk tL zv most xs]) #[] []).mine x) := by
  obtain ⟨m', h', ls', A', hx', hH, hS⟩ := hT
  have hob := hB.ob 0 _ _ g rfl isOb_lru hp
  have hfp : ∀ x, hidB m h ls x → (lruOb tk tL zv most xs).fp w g x := fun x hh => ⟨m, h, ls, A, hx, hh⟩
  have hfp' : ∀ x, (lruOb tk tL zv most' xs').fp w' g x → hidB m' h' ls' x := by
    rintro x ⟨m1, h1, ls1, b, e1, hh⟩
    obtain ⟨rfl, rfl, rfl⟩ := A'.uniq b (by have := congrArg List.length (hx'.trans e1.symm); simpa [itemsOf] using this)
    exact hh
  have hin : ∀ x, (x = g ∨ hidB m h ls x) → inM w p [lruB tk tL zv most xs] x := fun x hh => ⟨0, _, g, rfl, hp, hh.elim .inl fun hh => .inr ⟨_, isOb_lru, hfp x hh⟩⟩
  have hFg : ∀ j, ¬ F g j := fun j hj => by
    have := (hB.fz 0 _ g j rfl hp hj).1
    cases this
  refine ⟨hH.wider hin, fun g' j hj => ?_, ⟨?_, ?_, ?_, ?_⟩, ?_⟩
  · have : w'.heap[g']? = w.heap[g']? := hH.block g' fun e => by
      rcases e with e | rfl | e
      · have := hF g' j hj
        exact absurd this (Nat.not_lt.2 e)
      · exact hFg j hj
      · exact (hob.2 g' (hfp g' e)).2.1 j hj
    simp [World.cell?, this]
  · intro i b hi
    match i, hi with
    | 0, hi =>
      injection hi with hi
      subst hi
      unfold BlkOk
      rw [hp]
      refine ⟨_, tL, (0, 0), A'.hd, by simp, by show 1 ≤ 3; omega, fun j hj => ?_, fun e he => by cases he⟩
      match j, hj with
      | 0, _ => exact .ob _ _ _
  · intro i i' g1 hi hi' _ _
    have : i < 1 := hi
    have : i' < 1 := hi'
    omega
  · intro i b g1 j hi hp1 hj
    match i, hi with
    | 0, hi =>
      rw [hp] at hp1
      injection hp1 with hp1
      subst hp1
      exact absurd hj (hFg j)
  · intro i b K g1 hi hK hp1
    match i, hi with
    | 0, hi =>
      injection hi with hi
      subst hi
      rw [isOb_lru] at hK
      injection hK with hK
      subst hK
      rw [hp] at hp1
      injection hp1 with hp1
      subst hp1
      refine ⟨⟨m', h', ls', A', hx'⟩, fun x hh => ?_⟩
      have hh' := hfp' x hh
      refine ⟨A'.lt hh', fun j hj => ?_, fun i' b' g' hi' _ hne => ?_⟩
      · rcases hS x hh' with e | e
        · exact (hob.2 x (hfp x e)).2.1 j hj
        · have := hF x j hj; omega
      · match i', hi' with
        | 0, _ => exact absurd rfl hne
  · intro i b g1 x hi hp1 hf
    match i, hi with
    | 0, hi =>
      injection hi with hi
      subst hi
      rw [hp] at hp1
      injection hp1 with hp1
      subst hp1
      rcases hf with rfl | ⟨K, e1, e2⟩
      · exact .inr (hin _ (.inl rfl))
      · rw [isOb_lru] at e1
        injection e1 with e1
        subst e1
        rcases hS x (hfp' x e2) with e | e
        · exact .inr (hin x (.inr e))
        · exact .inl e
theorem args_lru {p : Nat → Option Nat} {c : Nat → Nat} {F : Nat → Nat → Prop} {D : Nat → Prop} {vals : List Value} {us : Array Value} (hp : p 0 = some g) (hs : us.size = (AV.ptr 0 0 :: vals.map .ex).length)
    (hr : ∀ j (hj : j < (AV.ptr 0 0 :: vals.map .ex).length), Rep w p c F D (AV.ptr 0 0 :: vals.map .ex)[j] (us.getD j undef)) : us = (pnt g :: vals).toArray := by
  have hs : us.size = vals.length + 1 := by simpa using hs
  apply Array.ext'
  apply List.ext_getElem?
  intro j
  cases j with
  | zero =>
    obtain ⟨g', _, h1, h2⟩ := Rep.ptr_inv (hr 0 (by simp))
    rw [hp] at h1
    injection h1 with h1
    subst h1
    have hj2 : 0 < us.size := by omega
    simp [hj2] at h2
    simp [hj2, h2]
  | succ j =>
    by_cases hj : j < vals.length
    · have h1 := hr (j + 1) (by simpa using hj)
      simp only [List.getElem_cons_succ, List.getElem_map] at h1
      have h2 := h1.ex_inv
      have hj2 : j + 1 < us.size := by omega
      simp [hj2] at h2
      simp [hj2, hj, h2]
    · rw [List.getElem?_eq_none (by simp [hs]; omega), List.getElem?_eq_none (by simp; omega)]
/-- a function on an Lru whose result is known whole -/
theorem SM_lru {f : FuncId} {fn : Func} {vals : List Value} {v : Value} (hf : Try.prog.funcs[f]? = some fn) (hn : (fn.name == "runtime.NumGoroutine") = false) (hb : fn.body.isNone = false)
    (hc : ∀ w g m h ls, LruAt tk tL zv w g m h ls most → itemsOf ls = xs → Calls Try.prog f (pnt g :: vals).toArray w fun e w' => e = .returned v ∧ LruTurn tk tL zv w g m h ls w' most' xs') :
    SM f (.ptr 0 0 :: vals.map .ex) [lruB tk tL zv most xs] [.ptr 0 0] (.ex v) [lruB tk tL zv most' xs'] := by
  refine ⟨enters hf hn hb, fun w p c F us hs hr hB hF => ?_⟩
  obtain ⟨g, m, h, ls, hp, A, hx⟩ := lru_at hB
  have he := args_lru hp hs hr
  subst he
  refine (hc w g m h ls A hx).mono ?_
  rintro e w' ⟨rfl, hT⟩
  obtain ⟨q1, q2, q3, q4⟩ := lru_after hB hF hp A hx hT
  refine ⟨v, p, c, F, rfl, q1, fun g j hj => ⟨hj, q2 g j hj⟩, fun g j hj => ⟨Nat.lt_of_lt_of_le (hF g j hj) q1.size, .inl hj⟩, q3, q4, by simp, fun j hj => ?_, .ex _ _⟩
  match j, hj with
  | 0, _ => exact .ptr _ 0 0 g (by show 0 < 1; omega) hp
theorem fp_inv {m' h' : Nat} {ls' : List Lk} (A' : LruAt tk tL zv w g m' h' ls' most) (hx' : itemsOf ls' = xs) {x : Nat} (h : (lruOb tk tL zv most xs).fp w g x) : hidB m' h' ls' x := by
  obtain ⟨m1, h1, ls1, b, e1, hh⟩ := h
  obtain ⟨rfl, rfl, rfl⟩ := A'.uniq b (by have := congrArg List.length (hx'.trans e1.symm); simpa [itemsOf] using this)
  exact hh
theorem blk_lru {p : Nat → Option Nat} {c : Nat → Nat} {F : Nat → Nat → Prop} {D : Nat → Prop} {r : Nat} (hp : p r = some g) (A : LruAt tk tL zv w g m h ls most) : BlkOk Try.prog w D p c F r (lruB tk tL zv most xs) := by
  unfold BlkOk
  rw [hp]
  refine ⟨_, tL, (0, 0), A.hd, by simp, by show 1 ≤ 3; omega, fun j hj => ?_, fun e he => by cases he⟩
  match j, hj with
  | 0, _ => exact .ob _ _ _
/-- a new Lru -/
def NewLru (tk tL : TypeId) (zv : List Value) (w : World) (most : Int) (xs : List (List UInt8 × List Value)) (e : Ending) (w' : World) : Prop :=
  ∃ g m h ls, e = .returned (pnt g) ∧ LruAt tk tL zv w' g m h ls most ∧ itemsOf ls = xs ∧ Only w (fun _ => False) w' ∧ w.heap.size ≤ g ∧ ∀ x, hidB m h ls x → w.heap.size ≤ x
/-- a function that makes one -/
theorem SM_made {f : FuncId} {fn : Func} {vals : List Value} (hf : Try.prog.funcs[f]? = some fn) (hn : (fn.name == "runtime.NumGoroutine") = false) (hb : fn.body.isNone = false)
    (hc : ∀ w, Calls Try.prog f vals.toArray w (NewLru tk tL zv w most xs)) : SM f (vals.map .ex) [] [] (.ptr 0 0) [lruB tk tL zv most xs] := by
  refine ⟨enters hf hn hb, fun w p c F us hs hr hB hF => ?_⟩
  have he : us = vals.toArray := by
    apply Array.ext'
    apply List.ext_getElem?
    intro j
    by_cases hj : j < vals.length
    · have h1 := hr j (by simpa using hj)
      simp only [List.getElem_map] at h1
      have h2 := h1.ex_inv
      have hj2 : j < us.size := by rw [hs]; simpa using hj
      simp [hj2] at h2
      simp [hj2, hj, h2]
    · rw [List.getElem?_eq_none (by simp [hs]; omega), List.getElem?_eq_none (by simp; omega)]
  subst he
  refine (hc w).mono ?_
  rintro e w' ⟨g, m, h, ls, rfl, A, hx, hO, hg, hh⟩
  refine ⟨_, fun _ => some g, c, F, rfl, (hO.held).wider (fun _ h => h.elim), fun g1 j hj => ⟨hj, ?_⟩, fun g1 j hj => ⟨Nat.lt_of_lt_of_le (hF g1 j hj) hO.size, .inl hj⟩, ⟨?_, ?_, ?_, ?_⟩, ?_, by simp, fun j hj => by simp at hj, .ptr _ 0 0 g (by show 0 < 1; omega) rfl⟩
  · have := hO.block g1 (hF g1 j hj) id
    simp [World.cell?, this]
  · intro i b hi
    match i, hi with
    | 0, hi =>
      injection hi with hi
      subst hi
      exact blk_lru rfl A
  · intro i i' g1 hi hi' _ _
    have : i < 1 := hi
    have : i' < 1 := hi'
    omega
  · intro i b g1 j hi hp1 hj
    injection hp1 with hp1
    have := hF g1 j hj
    omega
  · intro i b K g1 hi hK hp1
    match i, hi with
    | 0, hi =>
      injection hi with hi
      subst hi
      rw [isOb_lru] at hK
      injection hK with hK
      subst hK
      injection hp1 with hp1
      subst hp1
      refine ⟨⟨m, h, ls, A, hx⟩, fun x hf => ?_⟩
      have hh' := fp_inv A hx hf
      refine ⟨A.lt hh', fun j hj => ?_, fun i' b' g' hi' _ hne => ?_⟩
      · have := hF x j hj
        have := hh x hh'
        omega
      · match i', hi' with
        | 0, _ => exact absurd rfl hne
  · intro i b g1 x hi hp1 hf
    match i, hi with
    | 0, hi =>
      injection hi with hi
      subst hi
      injection hp1 with hp1
      subst hp1
      rcases hf with rfl | ⟨K, e1, e2⟩
      · exact .inl hg
      · rw [isOb_lru] at e1
        injection e1 with e1
        subst e1
        exact .inl (hh x (fp_inv A hx e2))
/-- a function that makes another one beside an Lru -/
theorem SM_fork {f : FuncId} {fn : Func} {vals : List Value} (hf : Try.prog.funcs[f]? = some fn) (hn : (fn.name == "runtime.NumGoroutine") = false) (hb : fn.body.isNone = false)
    (hc : ∀ w g m h ls, LruAt tk tL zv w g m h ls most → itemsOf ls = xs → Calls Try.prog f (pnt g :: vals).toArray w (NewLru tk tL zv w most' xs')) :
    SM f (.ptr 0 0 :: vals.map .ex) [lruB tk tL zv most xs] [.ptr 0 0] (.ptr 1 0) [lruB tk tL zv most xs, lruB tk tL zv most' xs'] := by
  refine ⟨enters hf hn hb, fun w p c F us hs hr hB hF => ?_⟩
  obtain ⟨g, m, h, ls, hp, A, hx⟩ := lru_at hB
  have he := args_lru hp hs hr
  subst he
  refine (hc w g m h ls A hx).mono ?_
  rintro e w' ⟨g2, m2, h2, ls2, rfl, A2, hx2, hO, hg2, hh2⟩
  have A1 := A.only hO
  have hgl := heap_lt A.hd
  have hob := hB.ob 0 _ _ g rfl isOb_lru hp
  have hfp : ∀ x, hidB m h ls x → (lruOb tk tL zv most xs).fp w g x := fun x hh => ⟨m, h, ls, A, hx, hh⟩
  have hp0 : setAt p 1 (some g2) 0 = some g := by rw [setAt_ne p _ (by decide)]; exact hp
  have hp1 : setAt p 1 (some g2) 1 = some g2 := setAt_same ..
  refine ⟨_, setAt p 1 (some g2), c, F, rfl, (hO.held).wider (fun _ h => h.elim), fun g1 j hj => ⟨hj, ?_⟩, fun g1 j hj => ⟨Nat.lt_of_lt_of_le (hF g1 j hj) hO.size, .inl hj⟩, ⟨?_, ?_, ?_, ?_⟩, ?_, by simp, fun j hj => ?_, .ptr _ 1 0 g2 (by show 1 < 2; omega) hp1⟩
  · have := hO.block g1 (hF g1 j hj) id
    simp [World.cell?, this]
  · intro i b hi
    match i, hi with
    | 0, hi =>
      injection hi with hi
      subst hi
      exact blk_lru hp0 A1
    | 1, hi =>
      injection hi with hi
      subst hi
      exact blk_lru hp1 A2
  · intro i i' g1 hi hi' q1 q2
    match i, hi, i', hi' with
    | 0, _, 0, _ => rfl
    | 1, _, 1, _ => rfl
    | 0, _, 1, _ =>
      have e1 := Option.some.inj (hp0.symm.trans q1)
      have e2 := Option.some.inj (hp1.symm.trans q2)
      exact absurd (e2.trans e1.symm ▸ hg2 : w.heap.size ≤ g) (Nat.not_le.2 hgl)
    | 1, _, 0, _ =>
      have e1 := Option.some.inj (hp0.symm.trans q2)
      have e2 := Option.some.inj (hp1.symm.trans q1)
      exact absurd (e2.trans e1.symm ▸ hg2 : w.heap.size ≤ g) (Nat.not_le.2 hgl)
  · intro i b g1 j hi q1 hj
    match i, hi with
    | 0, hi =>
      rw [hp0] at q1
      injection q1 with q1
      subst q1
      have := (hB.fz 0 _ g j rfl hp hj).1
      cases this
    | 1, hi =>
      rw [hp1] at q1
      injection q1 with q1
      have := hF g1 j hj
      omega
  · intro i b K g1 hi hK q1
    match i, hi with
    | 0, hi =>
      injection hi with hi
      subst hi
      rw [isOb_lru] at hK
      injection hK with hK
      subst hK
      rw [hp0] at q1
      injection q1 with q1
      subst q1
      refine ⟨⟨m, h, ls, A1, hx⟩, fun x hf => ?_⟩
      have hh' := fp_inv A1 hx hf
      refine ⟨A1.lt hh', (hob.2 x (hfp x hh')).2.1, fun i' b' g' hi' q2 hne => ?_⟩
      match i', hi' with
      | 0, _ => exact absurd rfl hne
      | 1, hi' =>
        injection hi' with hi'
        subst hi'
        rw [hp1] at q2
        injection q2 with q2
        subst q2
        have hl := A.lt hh'
        rintro (rfl | ⟨K, e1, e2⟩)
        · omega
        · rw [isOb_lru] at e1
          injection e1 with e1
          subst e1
          have := hh2 x (fp_inv A2 hx2 e2)
          omega
    | 1, hi =>
      injection hi with hi
      subst hi
      rw [isOb_lru] at hK
      injection hK with hK
      subst hK
      rw [hp1] at q1
      injection q1 with q1
      subst q1
      refine ⟨⟨m2, h2, ls2, A2, hx2⟩, fun x hf => ?_⟩
      have hh' := fp_inv A2 hx2 hf
      have hge := hh2 x hh'
      refine ⟨A2.lt hh', fun j hj => ?_, fun i' b' g' hi' q2 hne => ?_⟩
      · have := hF x j hj; omega
      · match i', hi' with
        | 1, _ => exact absurd rfl hne
        | 0, hi' =>
          injection hi' with hi'
          subst hi'
          rw [hp0] at q2
          injection q2 with q2
          subst q2
          rintro (rfl | ⟨K, e1, e2⟩)
          · omega
          · rw [isOb_lru] at e1
            injection e1 with e1
            subst e1
            have := A.lt (fp_inv A1 hx e2)
            omega
  · intro i b g1 x hi q1 hf
    match i, hi with
    | 0, hi =>
      injection hi with hi
      subst hi
      rw [hp0] at q1
      injection q1 with q1
      subst q1
      refine .inr ⟨0, _, g, rfl, hp, ?_⟩
      rcases hf with rfl | ⟨K, e1, e2⟩
      · exact .inl rfl
      · rw [isOb_lru] at e1
        injection e1 with e1
        subst e1
        exact .inr ⟨_, isOb_lru, hfp x (fp_inv A1 hx e2)⟩
    | 1, hi =>
      injection hi with hi
      subst hi
      rw [hp1] at q1
      injection q1 with q1
      subst q1
      rcases hf with rfl | ⟨K, e1, e2⟩
      · exact .inl hg2
      · rw [isOb_lru] at e1
        injection e1 with e1
        subst e1
        exact .inl (hh2 x (fp_inv A2 hx2 e2))
  · match j, hj with
    | 0, _ => exact .ptr _ 0 0 g (by show 0 < 2; omega) hp0
end
end Go.Proofs.Ytdicpbecdhaphaa.Av
