/- What the claim stands on, Fk16: contracts of functions and plain facts. No conditions. -/
import Derived.Test.YtbaedepmogkkeaaGreatFk15
import Derived.Test.YtbaedepmogkkeaaGreatFk14
namespace Go.Proofs.YtbaedepmogkkeaaGreat.Tre
open Go
set_option linter.unusedVariables false
set_option linter.unusedSimpArgs false
abbrev OpP := Nat × Key × Key
def stepL (o : OpP) (l : List Pr) : List Pr := if o.1 = 1 then putL o.2.1 o.2.2 l else if o.1 = 2 then delL o.2.1 l else if o.1 = 3 then dropL o.2.1 l else l
def applyL : List OpP → List Pr → List Pr
 | [], l => l
 | o :: os, l => applyL os (stepL o l)
namespace Tr
def step (o : OpP) (t : Tr) : Tr := if o.1 = 1 then put o.2.1 o.2.2 t else if o.1 = 2 then del o.2.1 t else if o.1 = 3 then drop o.2.1 t else t
def apply : List OpP → Tr → Tr
 | [], t => t
 | o :: os, t => apply os (step o t)
structure Good (t : Tr) : Prop where
 srt : Srt t.toL
 bal : t.Bal
theorem good_nil : Good nil := ⟨List.Pairwise.nil, trivial⟩
theorem Good.put {t : Tr} (h : Good t) (k v : Key) : Good (t.put k v) ∧ (t.put k v).toL = putL k v t.toL := by
 have e := put_toL (key := k) (val := v) h.srt
 exact ⟨⟨by rw [e]; exact put_srt h.srt, (put_bal h.bal).1⟩, e⟩
theorem Good.del {t : Tr} (h : Good t) (k : Key) : Good (t.del k) ∧ (t.del k).toL = delL k t.toL := by
 have e := del_toL (key := k) h.srt
 exact ⟨⟨by rw [e]; exact del_srt h.srt, del_bal h.bal⟩, e⟩
theorem Good.drop {t : Tr} (h : Good t) (k : Key) : Good (t.drop k) ∧ (t.drop k).toL = dropL k t.toL := by
 have e := drop_toL (p := k) h.srt
 exact ⟨⟨by rw [e]; exact drop_srt h.srt, drop_bal h.bal⟩, e⟩
theorem Good.step {t : Tr} (h : Good t) (o : OpP) : Good (t.step o) ∧ (t.step o).toL = stepL o t.toL := by
 unfold Tr.step stepL
 split
 ·exact h.put _ _
 ·split
  ·exact h.del _
  ·split
   ·exact h.drop _
   ·exact ⟨h, rfl⟩
end Tr
/-! ### sizes -/
theorem putL_len (k v : Key) : ∀ l : List Pr, (putL k v l).length ≤ l.length + 1 ∧ bytesL (putL k v l) ≤ bytesL l + 4 + k.length + v.length
 | [] => by simp [putL, bytesL]
 | (a, b) :: l => by
  have ih := putL_len k v l
  unfold putL
  split
  ·simp only [List.length_cons, bytesL]; omega
  ·split
   ·rename_i e; subst e; simp only [List.length_cons, bytesL]; omega
   ·simp only [List.length_cons, bytesL]; omega
theorem filter_len (f : Pr → Bool) : ∀ l : List Pr, (l.filter f).length ≤ l.length ∧ bytesL (l.filter f) ≤ bytesL l
 | [] => by simp [bytesL]
 | (a, b) :: l => by
  have ih := filter_len f l
  simp only [List.filter_cons]
  split
  ·simp only [List.length_cons, bytesL]; omega
  ·simp only [List.length_cons, bytesL]; omega
theorem stepL_len (o : OpP) (l : List Pr) : (stepL o l).length ≤ l.length + 1 ∧ bytesL (stepL o l) ≤ bytesL l + 4 + o.2.1.length + o.2.2.length := by
 unfold stepL
 split
 ·exact putL_len _ _ l
 ·split
  ·have := filter_len (fun p => p.1 != o.2.1) l; unfold delL; omega
  ·split
   ·have := filter_len (fun q => !begins o.2.1 q.1) l; unfold dropL; omega
   ·omega
def OpsIn (a b : Nat) (os : List OpP) : Prop := ∀ o ∈ os, o.2.1.length ≤ a ∧ o.2.2.length ≤ b
theorem applyL_len {a b : Nat} : ∀ (os : List OpP) (l : List Pr), OpsIn a b os → (applyL os l).length ≤ l.length + os.length ∧ bytesL (applyL os l) ≤ bytesL l + (4 + a + b) * os.length
 | [], l, _ => by simp [applyL]
 | o :: os, l, h => by
  have h0 := h o (by simp)
  have ih := applyL_len os (stepL o l) (fun x hx => h x (List.mem_cons_of_mem _ hx))
  have hs := stepL_len o l
  simp only [applyL, List.length_cons, Nat.mul_succ]
  omega
namespace Tr
theorem cn_join {l r : Tr} {k v : Key} : (join l k v r).cn = 1 + l.cn + r.cn := by
 rw [cn_len, cn_len, cn_len, join_toL _ _ _ _ _ (Nat.le_refl _)]; simp; omega
theorem wt_join {l r : Tr} {k v : Key} : (join l k v r).wt = 4 + (k.length : Int) + (v.length : Int) + l.wt + r.wt := by
 rw [wt_len, wt_len, wt_len, join_toL _ _ _ _ _ (Nat.le_refl _), bytesL_app]; simp [bytesL]; omega
theorem cn_level {t : Tr} : (level t).cn = t.cn := by rw [cn_len, cn_len, level_toL]
theorem wt_level {t : Tr} : (level t).wt = t.wt := by rw [wt_len, wt_len, level_toL]
theorem first_sizes {t : Tr} (h : t ≠ nil) : (first t).2.2.cn = t.cn - 1 ∧ (first t).2.2.wt + (4 + ((first t).1.length : Int) + ((first t).2.1.length : Int)) = t.wt := by
 have e := first_toL t h
 rw [cn_len, cn_len, wt_len, wt_len, ← e]
 simp [bytesL]; omega
theorem split_sizes {key : Key} : ∀ {t : Tr}, (split key t).1.cn + (split key t).2.cn = t.cn ∧ (split key t).1.wt + (split key t).2.wt = t.wt
 | nil => ⟨rfl, rfl⟩
 | node l k v r => by
  unfold split
  split
  ·obtain ⟨h1, h2⟩ := split_sizes (key := key) (t := r)
   simp only [cn_join, wt_join, cn, wt]; omega
  ·obtain ⟨h1, h2⟩ := split_sizes (key := key) (t := l)
   simp only [cn_join, wt_join, cn, wt]; omega
theorem put_sizes {k v : Key} : ∀ {t : Tr}, (put k v t).cn ≤ t.cn + 1 ∧ (put k v t).wt ≤ t.wt + 4 + (k.length : Int) + (v.length : Int)
 | nil => by simp [put, cn, wt]
 | node l a b r => by
  have c1 := cn_pos l
  have c2 := cn_pos r
  unfold put
  split
  ·obtain ⟨h1, h2⟩ := put_sizes (k := k) (v := v) (t := l)
   simp only [cn_level, wt_level, cn, wt]; omega
  ·split
   ·obtain ⟨h1, h2⟩ := put_sizes (k := k) (v := v) (t := r)
    simp only [cn_level, wt_level, cn, wt]; omega
   ·rename_i h1 h2
    have e : k = a := lt_tri (by simpa using h1) (by simpa using h2)
    subst e
    simp only [cn, wt]; omega
def same (a b : Tr) : Bool := decide (a.toL = b.toL)
theorem same_iff {a b : Tr} (ha : Good a) (hb : Good b) : a.toL = b.toL ↔ a.cn = b.cn ∧ a.wt = b.wt ∧ ∀ q ∈ a.toL, get q.1 b = some q.2 := by
 constructor
 ·intro h
  refine ⟨by rw [cn_len, cn_len, h], by rw [wt_len, wt_len, h], fun q hq => ?_⟩
  rw [get_toL hb.srt]
  exact getL_of_mem hb.srt (by rw [← h]; exact hq)
 ·rintro ⟨h1, _, h3⟩
  refine srt_ext ha.srt hb.srt (by rw [cn_len, cn_len] at h1; omega) fun q hq => ?_
  have := h3 q hq
  rw [get_toL hb.srt] at this
  exact getL_mem this
end Tr
end Go.Proofs.YtbaedepmogkkeaaGreat.Tre
namespace Go.Proofs.YtbaedepmogkkeaaGreat.Av
open Go Go.RowKit
set_option linter.unusedVariables false
set_option linter.unusedSimpArgs false
section
variable {P : Program} {w : World} {w0 : Ori} {D : Nat → Prop} {p : Nat → Option Nat} {c : Nat → Nat} {F F0 : Nat → Nat → Prop} {m : Fr} {sl : Sl} {h : Hp} {a : Act} {ops : Array Oper} {Q : Exit → Act → World → Prop}
theorem aops_pre : ∀ (l : List Oper) (i : Nat) {sl : Sl} {h : Hp} {nx : Nat} {K : Sl → Hp → Nat → Prop} {p : Nat → Option Nat} {c : Nat → Nat} {F : Nat → Nat → Prop} {a : Act} {w : World}, (∀ j o, l[j]? = some o → ops[i + j]? = some o) →
  aops P (Sound P) ops m l sl h nx K → Rel P w0 F0 m (ltD nx) p c F sl h a w →
  (∀ sl' h' nx' p' c' F' a' w', K sl' h' nx' → Rel P w0 F0 m (ltD nx') p' c' F' sl' h' a' w' → Q .normal a' w') → wpOps P ops Q (List.range' i l.length) a w
 | [], i, sl, h, nx, K, p, c, F, a, w, hl, hk, hr, hQ => hQ _ _ _ _ _ _ _ _ hk hr
 | o :: l, i, sl, h, nx, K, p, c, F, a, w, hl, hk, hr, hQ => by
  have ho : ops[i]? = some o := by have := hl 0 o rfl; simpa using this
  have hl' : ∀ j o, l[j]? = some o → ops[i + 1 + j]? = some o := fun j o' ho' => by rw [show i + 1 + j = i + (j + 1) by omega]; exact hl (j + 1) o' (by simpa using ho')
  have fin : ∀ {sl : Sl}, Rel P w0 F0 m (ltD nx) p c F sl h a w → (aop P (Sound P) o sl h nx fun v d n => putK m o.dst v sl fun sl => appK d h fun h => stepN nx n fun nx => aops P (Sound P) ops m l sl h nx K) →
    o.wp P a w (wpOps P ops Q (List.range' (i + 1) l.length)) Q := by
   intro sl hr hk
   refine op_step hk hr fun v d n x w' p' c' F' hk h1 h2 => ?_
   obtain ⟨sl', hk, hr'⟩ := h1.putK_ h2 hk
   rw [appK_eq, stepN_eq] at hk
   exact aops_pre l (i + 1) hl' hk hr' hQ
  have skip : ∀ {sl : Sl}, Rel P w0 F0 m (ltD nx) p c F sl h a w → (putK m o.dst (.ex undef) sl fun sl => aops P (Sound P) ops m l sl h nx K) → wpOps P ops Q (List.range' (i + 1) l.length) (a.put o.dst undef) w := by
   intro sl hr hk
   obtain ⟨sl', hk, hr'⟩ := hr.putK_ (.ex _ undef) hk
   exact aops_pre l (i + 1) hl' hk hr' hQ
  rw [List.length_cons, List.range'_succ]
  simp only [wpOps, ho]
  unfold aops at hk
  split at hk
  ·rename_i hg
   have hw : Region.wanted o (yielded ops a.tmps) = true := by simp [Region.wanted, hg]
   rw [if_pos hw]
   exact .inl (fin hr hk)
  ·rename_i j want hg
   split at hk
   case h_2 => exact hk.elim
   rename_i g hgs
   split at hk
   ·rename_i b hb
    have hlk := slotOf_look hb (by simp)
    have hy := (yields hr hgs).1 b hlk
    by_cases hbw : b = want
    ·have hw : Region.wanted o (yielded ops a.tmps) = true := by simp [Region.wanted, hg, hy, hbw]
     rw [if_pos hw]
     exact .inl (fin (hr.again (by rw [hlk, hbw])) (hk.1 hbw).out)
    ·have hbw' : b = (!want) := by cases b <;> cases want <;> simp_all
     have hw : ¬ Region.wanted o (yielded ops a.tmps) = true := by simp [Region.wanted, hg, hy, hbw]
     rw [if_neg hw]
     exact skip (hr.again (by rw [hlk, hbw'])) (hk.2 hbw').out
   ·rename_i us hb
    have hlk := slotOf_look hb (by simp)
    have hy := (yields hr hgs).2 us hlk
    have hw : ¬ Region.wanted o (yielded ops a.tmps) = true := by simp [Region.wanted, hg, hy]
    rw [if_neg hw]
    exact skip hr hk
   ·exact hk.elim
end
section
variable {F : Fence} {n : Nat} {P : Program} {ops : Array Oper} {Q : Exit → Act → World → Prop}
theorem opIn_only {o : Oper} {a : Act} {w : World} {next : Act → World → Prop} {Q' : Act → World → Prop} (h : o.wpIn F n P a w next (onlyN fun _ => Q')) : o.wpIn F n P a w next Q := by
 refine ⟨h.1, ?_⟩
 have h := h.2
 generalize (o.semAt F.round a.eval).run P w = r at *
 cases r with
 | ok x w' =>
  cases x <;> simp only [Oper.uponIn] at h ⊢ <;>
   first
    | exact h
    | exact ⟨h.1, h.2.mono (fun e w'' he => by cases e <;> first | exact he | exact he.elim | (obtain ⟨_, _, he⟩ := he; exact he.elim))⟩
 | halt x w' => cases x <;> simp only [Oper.uponIn] at h ⊢ <;> first | exact h | exact h.elim
theorem opsIn_append : ∀ (l1 l2 : List Nat) {a : Act} {w : World}, wpOpsIn F n P ops (onlyN fun _ => wpOpsIn F n P ops Q l2) l1 a w → wpOpsIn F n P ops Q (l1 ++ l2) a w
 | [], l2, a, w, h => h
 | i :: l1, l2, a, w, h => by
  simp only [wpOpsIn, List.cons_append] at h ⊢
  cases ho : ops[i]? with
  | none => simp only [ho] at h ⊢; exact opsIn_append l1 l2 h
  | some o =>
   simp only [ho] at h ⊢
   by_cases hw : Region.wanted o (yielded ops a.tmps) = true
   ·rw [if_pos hw] at h ⊢
    exact opIn_only (Oper.wpIn_mono (fun a w => opsIn_append l1 l2) h)
   ·rw [if_neg hw] at h ⊢
    exact ⟨h.1, opsIn_append l1 l2 h.2⟩
theorem opsIn_want {o : Oper} {i : Nat} {l2 : List Nat} {a : Act} {w : World} (ho : ops[i]? = some o) (hw : Region.wanted o (yielded ops a.tmps) = true) (h : o.wpIn F n P a w (wpOpsIn F n P ops Q l2) Q) : wpOpsIn F n P ops Q (i :: l2) a w := by
 simp only [wpOpsIn, ho]; rw [if_pos hw]; exact h
theorem yield_in {o : Oper} {l : Nat} {g : Operand} {args : Array Operand} {tys : Array TypeId} {a : Act} {w : World} {next : Act → World → Prop} {R : Ending → World → Prop} (hro : F.round = none) (hd : F.depth = none) (hfn : ∀ f, F.fn f)
  (ho : o.op = .call { callee := .value g, args := args, argTypes := tys }) (hg : a.eval g = .func (.yield l) #[] #[]) (hy : YieldAt F (n - 1) P l (args.map a.eval) w R)
  (hR : ∀ e w', R e w' → ∃ v, e = .returned v ∧ next (a.put o.dst v) w') : o.wpIn F n P a w next Q := by
 obtain ⟨fn, tmps, assign, body, hy, hr⟩ := hy
 refine ⟨fun f _ => hfn f, ?_⟩
 have hrun : (o.semAt F.round a.eval).run P w = .ok (.round l fn tmps assign body) w := by
  rw [hro]
  show (execOp a.eval o).run P w = _
  generalize a.eval = ρ at hg hy
  simp [execOp, ho, resolve, hg, invoke, Deferred.ofValue, hy]
 rw [hrun]
 refine ⟨fun e => (by rw [hd] at e; cases e), hr.mono fun e w' h => ?_⟩
 obtain ⟨v, rfl, hn⟩ := hR e w' h
 exact hn
end
section
variable {P : Program} {w w' : World} {F : Nat → Nat → Prop} {gh : Array Value} {m : Fr} {nx : Nat} {p : Nat → Option Nat} {c : Nat → Nat} {sl : Sl} {h : Hp} {a : Act} {Q : Exit → Act → World → Prop} {n : Nat}
theorem slot_ex {o : Ori} {F0 : Nat → Nat → Prop} {D : Nat → Prop} (hr : Rel P o F0 m D p c F sl h a w) {t : Nat} {v : Value} (ht : slotOf sl t = .ex v) : a.tmps.getD t undef = v := by
 have h6 := hr.ev_ (.tmp t)
 have e6 : ev sl (.tmp t) = slotOf sl t := rfl
 rw [e6, ht] at h6
 exact h6.ex_inv
theorem below_grown (h : Below w.heap.size w w') : w.grownBy w' none := ⟨h.os, h.tape, h.output, h.size, fun k hk _ => h.block k hk⟩
theorem seg (hm : P.follows .mixedOrders = true) {code : Code} {K : QA} (hpl : plainC code = true) (hk : avc P (Sound P) m code sl [] nx K) (hr : Rel P ⟨w, fun _ => False, gh, []⟩ F m (ltD nx) p c F sl [] a w)
  (hQ : ∀ e sl' h' nx' p' c' F' a' w', K e sl' h' nx' → Below w.heap.size w w' → Rel P ⟨w, fun _ => False, gh, []⟩ F m (ltD nx') p' c' F' sl' h' a' w' → Q (ofAX e) a' w') : code.wpIn Fence.wide n P Q a w :=
 wpIn_wide.2 ((wpIn_wide (n := 9)).1 (avcIn_ok (r := none) (n := 9) (Af := fun o' F0' => o' = ⟨w, fun _ => False, gh, []⟩ ∧ F0' = F) hm code (.inl rfl) (fun _ => by omega) (fun h => by rw [hpl] at h; cases h) ⟨rfl, rfl⟩ hk hr fun e sl' h' nx' p' c' F' a' w' o' F0' hA h1 h2 => by
  obtain ⟨h3, h4⟩ := hA
  rw [h3, h4] at h2
  exact hQ e sl' h' nx' p' c' F' a' w' h1 (below_of h2.below) h2))
theorem segOps {ops : Array Oper} {K : Sl → Hp → Nat → Prop} {l : List Oper} {i : Nat} {l2 : List Nat} (hl : ∀ j o, l[j]? = some o → ops[i + j]? = some o) (hk : aops P (Sound P) ops m l sl [] nx K) (hr : Rel P ⟨w, fun _ => False, gh, []⟩ F m (ltD nx) p c F sl [] a w)
  (hQ : ∀ sl' h' nx' p' c' F' a' w', K sl' h' nx' → Below w.heap.size w w' → Rel P ⟨w, fun _ => False, gh, []⟩ F m (ltD nx') p' c' F' sl' h' a' w' → wpOpsIn Fence.wide n P ops Q l2 a' w') : wpOpsIn Fence.wide n P ops Q (List.range' i l.length ++ l2) a w :=
 opsIn_append _ _ (wpOps_in (r := none) (.inl rfl) onlyN_out _ (aops_pre l i hl hk hr fun sl' h' nx' p' c' F' a' w' h1 h2 => hQ sl' h' nx' p' c' F' a' w' h1 (below_of h2.below) h2))
end
end Go.Proofs.YtbaedepmogkkeaaGreat.Av
