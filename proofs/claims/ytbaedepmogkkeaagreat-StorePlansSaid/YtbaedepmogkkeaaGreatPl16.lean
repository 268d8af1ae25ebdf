/- What the claim stands on, Pl16: contracts of functions and plain facts. No conditions. -/
import Derived.Test.YtbaedepmogkkeaaGreatPl14
namespace Go.Proofs.YtbaedepmogkkeaaGreat.Av
open Go Go.RowKit
set_option linter.unusedVariables false
set_option linter.unusedSimpArgs false
section
variable {P : Program} {w : World} {w0 : Ori} {D : Nat → Prop} {p : Nat → Option Nat} {c : Nat → Nat} {F F0 : Nat → Nat → Prop} {m : Fr} {sl : Sl} {h : Hp} {a : Act} {ops : Array Oper} {Q : Exit → Act → World → Prop}
theorem aops_pre : ∀ (l : List Oper) (i : Nat) {sl : Sl} {h : Hp} {nx : Nat} {K : Sl → Hp → Nat → Prop} {p : Nat → Option Nat} {c : Nat → Nat} {F : Nat → Nat → Prop} {a : Act} {w : World}, (∀ j o, l[j]? = some o → ops[i + j]? = some o) →
  aops P (Sound P) ops m l sl h nx K → Rel P w0 F0 m (ltD nx) p c F sl h a w →
  (∀ sl' h' nx' p' c' F' a' w', K sl' h' nx' → Rel P w0 F0 m (ltD nx') p' c' F' sl' h' a' w' → Q .normal a' w') → wpOps P ops Q (List.range' i l.length) a w
 | [], i, sl, h, nx, K, p, c, F, a, w, hl, hk, hr, hQ => hQ _ _ _ _ _ _ _ _ hk hr
 | o :: l, i, sl, h, nx, K, p, c, F, a, w, hl, hk, hr, hQ => by
  have ho : ops[i]? = some o := by have := hl 0 o rfl; simpa using this
  have hl' : ∀ j o, l[j]? = some o → ops[i + 1 + j]? = some o := fun j o' ho' => by rw [show i + 1 + j = i + (j + 1) by omega]; exact hl (j + 1) o' (by simpa using ho')
  have fin : ∀ {sl : Sl}, Rel P w0 F0 m (ltD nx) p c F sl h a w → (aop P (Sound P) o sl h nx fun v d n => putK m o.dst v sl fun sl => appK d h fun h => stepN nx n fun nx => aops P (Sound P) ops m l sl h nx K) →
    o.wp P a w (wpOps P ops Q (List.range' (i + 1) l.length)) Q := by
   intro sl hr hk
   refine op_step hk hr fun v d n x w' p' c' F' hk h1 h2 => ?_
   obtain ⟨sl', hk, hr'⟩ := h1.putK_ h2 hk
   rw [appK_eq, stepN_eq] at hk
   exact aops_pre l (i + 1) hl' hk hr' hQ
  have skip : ∀ {sl : Sl}, Rel P w0 F0 m (ltD nx) p c F sl h a w → (putK m o.dst (.ex undef) sl fun sl => aops P (Sound P) ops m l sl h nx K) → wpOps P ops Q (List.range' (i + 1) l.length) (a.put o.dst undef) w := by
   intro sl hr hk
   obtain ⟨sl', hk, hr'⟩ := hr.putK_ (.ex _ undef) hk
   exact aops_pre l (i + 1) hl' hk hr' hQ
  rw [List.length_cons, List.range'_succ]
  simp only [wpOps, ho]
  unfold aops at hk
  split at hk
  ·rename_i hg
   have hw : Region.wanted o (yielded ops a.tmps) = true := by simp [Region.wanted, hg]
   rw [if_pos hw]
   exact .inl (fin hr hk)
  ·rename_i j want hg
   split at hk
   case h_2 => exact hk.elim
   rename_i g hgs
   split at hk
   ·rename_i b hb
    have hlk := slotOf_look hb (by simp)
    have hy := (yields hr hgs).1 b hlk
    by_cases hbw : b = want
    ·have hw : Region.wanted o (yielded ops a.tmps) = true := by simp [Region.wanted, hg, hy, hbw]
     rw [if_pos hw]
     exact .inl (fin (hr.again (by rw [hlk, hbw])) (hk.1 hbw).out)
    ·have hbw' : b = (!want) := by cases b <;> cases want <;> simp_all
     have hw : ¬ Region.wanted o (yielded ops a.tmps) = true := by simp [Region.wanted, hg, hy, hbw]
     rw [if_neg hw]
     exact skip (hr.again (by rw [hlk, hbw'])) (hk.2 hbw').out
   ·rename_i us hb
    have hlk := slotOf_look hb (by simp)
    have hy := (yields hr hgs).2 us hlk
    have hw : ¬ Region.wanted o (yielded ops a.tmps) = true := by simp [Region.wanted, hg, hy]
    rw [if_neg hw]
    exact skip hr hk
   ·exact hk.elim
end
section
variable {F : Fence} {n : Nat} {P : Program} {ops : Array Oper} {Q : Exit → Act → World → Prop}
theorem opIn_only {o : Oper} {a : Act} {w : World} {next : Act → World → Prop} {Q' : Act → World → Prop} (h : o.wpIn F n P a w next (onlyN fun _ => Q')) : o.wpIn F n P a w next Q := by
 refine ⟨h.1, ?_⟩
 have h := h.2
 generalize (o.semAt F.round a.eval).run P w = r at *
 cases r with
 | ok x w' =>
  cases x <;> simp only [Oper.uponIn] at h ⊢ <;>
   first
    | exact h
    | exact ⟨h.1, h.2.mono (fun e w'' he => by cases e <;> first | exact he | exact he.elim | (obtain ⟨_, _, he⟩ := he; exact he.elim))⟩
 | halt x w' => cases x <;> simp only [Oper.uponIn] at h ⊢ <;> first | exact h | exact h.elim
theorem opsIn_append : ∀ (l1 l2 : List Nat) {a : Act} {w : World}, wpOpsIn F n P ops (onlyN fun _ => wpOpsIn F n P ops Q l2) l1 a w → wpOpsIn F n P ops Q (l1 ++ l2) a w
 | [], l2, a, w, h => h
 | i :: l1, l2, a, w, h => by
  simp only [wpOpsIn, List.cons_append] at h ⊢
  cases ho : ops[i]? with
  | none => simp only [ho] at h ⊢; exact opsIn_append l1 l2 h
  | some o =>
   simp only [ho] at h ⊢
   by_cases hw : Region.wanted o (yielded ops a.tmps) = true
   ·rw [if_pos hw] at h ⊢
    exact opIn_only (Oper.wpIn_mono (fun a w => opsIn_append l1 l2) h)
   ·rw [if_neg hw] at h ⊢
    exact ⟨h.1, opsIn_append l1 l2 h.2⟩
theorem opsIn_want {o : Oper} {i : Nat} {l2 : List Nat} {a : Act} {w : World} (ho : ops[i]? = some o) (hw : Region.wanted o (yielded ops a.tmps) = true) (h : o.wpIn F n P a w (wpOpsIn F n P ops Q l2) Q) : wpOpsIn F n P ops Q (i :: l2) a w := by
 simp only [wpOpsIn, ho]; rw [if_pos hw]; exact h
theorem yield_in {o : Oper} {l : Nat} {g : Operand} {args : Array Operand} {tys : Array TypeId} {a : Act} {w : World} {next : Act → World → Prop} {R : Ending → World → Prop} (hro : F.round = none) (hd : F.depth = none) (hfn : ∀ f, F.fn f)
  (ho : o.op = .call { callee := .value g, args := args, argTypes := tys }) (hg : a.eval g = .func (.yield l) #[] #[]) (hy : YieldAt F (n - 1) P l (args.map a.eval) w R)
  (hR : ∀ e w', R e w' → ∃ v, e = .returned v ∧ next (a.put o.dst v) w') : o.wpIn F n P a w next Q := by
 obtain ⟨fn, tmps, assign, body, hy, hr⟩ := hy
 refine ⟨fun f _ => hfn f, ?_⟩
 have hrun : (o.semAt F.round a.eval).run P w = .ok (.round l fn tmps assign body) w := by
  rw [hro]
  show (execOp a.eval o).run P w = _
  generalize a.eval = ρ at hg hy
  simp [execOp, ho, resolve, hg, invoke, Deferred.ofValue, hy]
 rw [hrun]
 refine ⟨fun e => (by rw [hd] at e; cases e), hr.mono fun e w' h => ?_⟩
 obtain ⟨v, rfl, hn⟩ := hR e w' h
 exact hn
end
section
variable {P : Program} {w w' : World} {F : Nat → Nat → Prop} {gh : Array Value} {m : Fr} {nx : Nat} {p : Nat → Option Nat} {c : Nat → Nat} {sl : Sl} {h : Hp} {a : Act} {Q : Exit → Act → World → Prop} {n : Nat}
theorem slot_ex {o : Ori} {F0 : Nat → Nat → Prop} {D : Nat → Prop} (hr : Rel P o F0 m D p c F sl h a w) {t : Nat} {v : Value} (ht : slotOf sl t = .ex v) : a.tmps.getD t undef = v := by
 have h6 := hr.ev_ (.tmp t)
 have e6 : ev sl (.tmp t) = slotOf sl t := rfl
 rw [e6, ht] at h6
 exact h6.ex_inv
theorem below_grown (h : Below w.heap.size w w') : w.grownBy w' none := ⟨h.os, h.tape, h.output, h.size, fun k hk _ => h.block k hk⟩
theorem seg (hm : P.follows .mixedOrders = true) {code : Code} {K : QA} (hpl : plainC code = true) (hk : avc P (Sound P) m code sl [] nx K) (hr : Rel P ⟨w, fun _ => False, gh, []⟩ F m (ltD nx) p c F sl [] a w)
  (hQ : ∀ e sl' h' nx' p' c' F' a' w', K e sl' h' nx' → Below w.heap.size w w' → Rel P ⟨w, fun _ => False, gh, []⟩ F m (ltD nx') p' c' F' sl' h' a' w' → Q (ofAX e) a' w') : code.wpIn Fence.wide n P Q a w :=
 wpIn_wide.2 ((wpIn_wide (n := 9)).1 (avcIn_ok (r := none) (n := 9) (Af := fun o' F0' => o' = ⟨w, fun _ => False, gh, []⟩ ∧ F0' = F) hm code (.inl rfl) (fun _ => by omega) (fun h => by rw [hpl] at h; cases h) ⟨rfl, rfl⟩ hk hr fun e sl' h' nx' p' c' F' a' w' o' F0' hA h1 h2 => by
  obtain ⟨h3, h4⟩ := hA
  rw [h3, h4] at h2
  exact hQ e sl' h' nx' p' c' F' a' w' h1 (below_of h2.below) h2))
theorem segOps {ops : Array Oper} {K : Sl → Hp → Nat → Prop} {l : List Oper} {i : Nat} {l2 : List Nat} (hl : ∀ j o, l[j]? = some o → ops[i + j]? = some o) (hk : aops P (Sound P) ops m l sl [] nx K) (hr : Rel P ⟨w, fun _ => False, gh, []⟩ F m (ltD nx) p c F sl [] a w)
  (hQ : ∀ sl' h' nx' p' c' F' a' w', K sl' h' nx' → Below w.heap.size w w' → Rel P ⟨w, fun _ => False, gh, []⟩ F m (ltD nx') p' c' F' sl' h' a' w' → wpOpsIn Fence.wide n P ops Q l2 a' w') : wpOpsIn Fence.wide n P ops Q (List.range' i l.length ++ l2) a w :=
 opsIn_append _ _ (wpOps_in (r := none) (.inl rfl) onlyN_out _ (aops_pre l i hl hk hr fun sl' h' nx' p' c' F' a' w' h1 h2 => hQ sl' h' nx' p' c' F' a' w' h1 (below_of h2.below) h2))
end
end Go.Proofs.YtbaedepmogkkeaaGreat.Av
