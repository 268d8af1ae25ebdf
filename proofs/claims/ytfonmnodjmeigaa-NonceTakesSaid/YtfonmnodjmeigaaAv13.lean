/- The abstract machine: regions, code, functions; and that they are true of the model. No program's law is stated here. No conditions. -/
import Derived.Test.YtfonmnodjmeigaaAv12
namespace Go.Proofs.Ytfonmnodjmeigaa.Av
open Go Go.RowKit
set_option linter.unusedVariables false
set_option linter.unusedSimpArgs false

/-- the value laid open -/
def forceV (v : AV) (k : AV → Prop) : Prop := match v with
  | .ex v => k (.ex v)
  | .unk => k .unk
  | .ptr r o => k (.ptr r o)
  | .sl r n => k (.sl r n)
  | .vs n cs => k (.vs n cs)
  | .vp cs o => k (.vp cs o)
  | .vq cs o => k (.vq cs o)
  | .own e n cs => k (.own e n cs)
  | .agg cs => k (.agg cs)
  | .tup vs => k (.tup vs)
theorem forceV_eq (v : AV) (k : AV → Prop) : forceV v k = k v := by cases v <;> rfl
def putK (m : Nat) (d : Option Tmp) (v : AV) (sl : Sl) (k : Sl → Prop) : Prop := match d with
  | some d => match Nat.blt d m with
    | true => forceV v fun v => k ((d, v) :: sl)
    | false => False
  | none => k sl
def appK : Hp → Hp → (Hp → Prop) → Prop
  | [], h, k => k h
  | x :: d, h, k => appK d h fun h => k (x :: h)
theorem appK_eq : ∀ (d h : Hp) (k : Hp → Prop), appK d h k = k (d ++ h)
  | [], h, k => rfl
  | x :: d, h, k => by rw [appK, appK_eq d]; rfl
/-- the next number; nothing is added where there is nothing to add -/
def stepN (nx n : Nat) (k : Nat → Prop) : Prop := match n with
  | 0 => k nx
  | n + 1 => k (nx + (n + 1))
theorem stepN_eq (nx n : Nat) (k : Nat → Prop) : stepN nx n k = k (nx + n) := by cases n <;> rfl
/-- the list laid open -/
def forceL : List Nat → (List Nat → Prop) → Prop
  | [], k => k []
  | r :: l, k => forceL l fun l => k (r :: l)
theorem forceL_eq : ∀ (l : List Nat) (k : List Nat → Prop), forceL l k = k l
  | [], k => rfl
  | r :: l, k => by rw [forceL, forceL_eq l]
def guardSlot (ops : Array Oper) (j : Nat) : Option Tmp := match ops[j]? with
  | some o => o.dst
  | none => none

section
variable (P : Program) (Snd : FuncId → List AV → AV → Prop) (ops : Array Oper) (m : Nat)
/-- Operations in the text's order. -/
def aops : List Oper → Sl → Hp → Nat → (Sl → Hp → Nat → Prop) → Prop
  | [], sl, h, nx, K => K sl h nx
  | o :: l, sl, h, nx, K => match o.guard with
    | none => aop P Snd o sl h nx fun v d n => putK m o.dst v sl fun sl => appK d h fun h => stepN nx n fun nx => aops l sl h nx K
    | some (j, want) => match guardSlot ops j with
      | some g => match slotOf sl g with
        | .ex (.bool b) => (b = want → aop P Snd o ((g, .ex (.bool want)) :: sl) h nx fun v d n => putK m o.dst v ((g, .ex (.bool want)) :: sl) fun sl => appK d h fun h => stepN nx n fun nx => aops l sl h nx K) ∧
            (b = (!want) → putK m o.dst (.ex undef) ((g, .ex (.bool (!want))) :: sl) fun sl => aops l sl h nx K)
        | .ex (.tuple _) => putK m o.dst (.ex undef) sl fun sl => aops l sl h nx K
        | _ => False
      | none => False
end
section
variable {P : Program} {w w0 : World} {D : Nat → Prop} {p : Nat → Option Nat} {c : Nat → Nat} {F F0 : Nat → Nat → Prop} {m : Nat} {sl : Sl} {h : Hp} {a : Act} {ops : Array Oper} {Q : Exit → Act → World → Prop}
def ltD (n : Nat) : Nat → Prop := fun i => i < n
theorem Rel.dom (hr : Rel P w0 F0 m D p c F sl h a w) {D' : Nat → Prop} (e : ∀ i, D' i ↔ D i) : Rel P w0 F0 m D' p c F sl h a w := by
  have : D' = D := funext fun i => propext (e i)
  rw [this]; exact hr
theorem slotOf_look {t : Nat} {v : AV} (e : slotOf sl t = v) (hv : v ≠ .unk) : look sl t = some v := by
  unfold slotOf at e
  split at e
  · rename_i u hu; rw [hu, e]
  · exact absurd e.symm hv
theorem Rel.again (hr : Rel P w0 F0 m D p c F sl h a w) {g : Nat} {v : AV} (e : look sl g = some v) : Rel P w0 F0 m D p c F ((g, v) :: sl) h a w :=
  hr.weaken (fun t u ht => by
    rw [look_cons] at ht
    by_cases e1 : g = t
    · subst e1; rw [if_pos rfl] at ht; injection ht with ht; subst ht; exact .inr e
    · rw [if_neg e1] at ht; exact .inr ht) fun _ _ h => h
theorem Rel.putK_ (hr : Rel P w0 F0 m D p c F sl h a w) {v : AV} {x : Value} (hv : Rep w p c F D v x) {d : Option Tmp} {k : Sl → Prop} (hk : putK m d v sl k) :
    ∃ sl', k sl' ∧ Rel P w0 F0 m D p c F sl' h (a.put d x) w := by
  unfold putK at hk
  split at hk
  · rename_i d
    split at hk
    · rename_i hd
      rw [forceV_eq] at hk
      have hd' : d < m := by
        have : d + 1 ≤ m := by simpa [Nat.blt, Nat.ble_eq] using hd
        exact this
      exact ⟨_, hk, hr.put hv hd'⟩
    · exact hk.elim
  · exact ⟨_, hk, hr⟩
theorem yields (hr : Rel P w0 F0 m D p c F sl h a w) {j g : Nat} (hg : guardSlot ops j = some g) : (∀ b, look sl g = some (.ex (.bool b)) → yielded ops a.tmps j = some b) ∧ (∀ us, look sl g = some (.ex (.tuple us)) → yielded ops a.tmps j = none) := by
  have hd : (ops[j]?).bind (·.dst) = some g := by
    unfold guardSlot at hg
    cases ho : ops[j]? with
    | none => rw [ho] at hg; cases hg
    | some o => rw [ho] at hg; exact hg
  constructor
  · intro b hb
    have := (hr.slots g _ hb).ex_inv
    have hlt : g < a.tmps.size := by
      apply Classical.byContradiction
      intro hn
      rw [Array.getD_eq_getD_getElem?, Array.getElem?_eq_none (Nat.le_of_not_lt hn)] at this
      cases this
    have e : a.tmps[g]? = some (.bool b) := by
      rw [Array.getElem?_eq_getElem hlt]
      rw [Array.getD_eq_getD_getElem?, Array.getElem?_eq_getElem hlt] at this
      exact congrArg some this
    simp [yielded, hd, e]
  · intro us hb
    have := (hr.slots g _ hb).ex_inv
    cases e : a.tmps[g]? with
    | none => simp [yielded, hd, e]
    | some x =>
      rw [Array.getD_eq_getD_getElem?, e] at this
      have : x = .tuple us := this
      subst this
      simp [yielded, hd, e]
theorem op_step {o : Oper} {nx : Nat} {k : Kt} {next : Act → World → Prop} (hk : aop P (Sound P) o sl h nx k) (hr : Rel P w0 F0 m (ltD nx) p c F sl h a w)
    (hn : ∀ v d n x w' p' c' F', k v d n → Rel P w0 F0 m (ltD (nx + n)) p' c' F' sl (d ++ h) a w' → Rep w' p' c' F' (ltD (nx + n)) v x → next (a.put o.dst x) w') : o.wp P a w next Q := by
  obtain ⟨v, d, n, hok, hk⟩ := aop_ok hk
  refine hok w0 F0 m (ltD nx) p c F sl h a w next Q hr hr.ev_ (fun r b hb => blk_look hb) (fun i h1 h2 h3 => by have h4 : i < nx := h3; omega) ?_
  intro x w' D' p' c' F' h1 h2 h3
  have e : ∀ i, ltD (nx + n) i ↔ D' i := fun i => by
    rw [h3]; unfold ltD
    constructor
    · intro h; by_cases h4 : i < nx
      · exact .inl h4
      · exact .inr ⟨by omega, h⟩
    · intro h; rcases h with h | h <;> omega
  have e' : ltD (nx + n) = D' := funext fun i => propext (e i)
  rw [← e'] at h1 h2
  exact hn v d n x w' p' c' F' hk h1 h2
theorem aops_ok : ∀ (l : List Oper) (i : Nat) {sl : Sl} {h : Hp} {nx : Nat} {K : Sl → Hp → Nat → Prop} {p : Nat → Option Nat} {c : Nat → Nat} {F : Nat → Nat → Prop} {a : Act} {w : World}, (∀ j, l[j]? = ops[i + j]?) →
    aops P (Sound P) ops m l sl h nx K → Rel P w0 F0 m (ltD nx) p c F sl h a w →
    (∀ sl' h' nx' p' c' F' a' w', K sl' h' nx' → Rel P w0 F0 m (ltD nx') p' c' F' sl' h' a' w' → Q .normal a' w') → wpOps P ops Q (List.range' i l.length) a w
  | [], i, sl, h, nx, K, p, c, F, a, w, hl, hk, hr, hQ => hQ _ _ _ _ _ _ _ _ hk hr
  | o :: l, i, sl, h, nx, K, p, c, F, a, w, hl, hk, hr, hQ => by
    have ho : ops[i]? = some o := by have := hl 0; simpa using this.symm
    have hl' : ∀ j, l[j]? = ops[i + 1 + j]? := fun j => by have := hl (j + 1); rw [show i + 1 + j = i + (j + 1) by omega]; simpa using this
    have fin : ∀ {sl : Sl}, Rel P w0 F0 m (ltD nx) p c F sl h a w → (aop P (Sound P) o sl h nx fun v d n => putK m o.dst v sl fun sl => appK d h fun h => stepN nx n fun nx => aops P (Sound P) ops m l sl h nx K) →
        o.wp P a w (wpOps P ops Q (List.range' (i + 1) l.length)) Q := by
      intro sl hr hk
      refine op_step hk hr fun v d n x w' p' c' F' hk h1 h2 => ?_
      obtain ⟨sl', hk, hr'⟩ := h1.putK_ h2 hk
      rw [appK_eq, stepN_eq] at hk
      exact aops_ok l (i + 1) hl' hk hr' hQ
    have skip : ∀ {sl : Sl}, Rel P w0 F0 m (ltD nx) p c F sl h a w → (putK m o.dst (.ex undef) sl fun sl => aops P (Sound P) ops m l sl h nx K) → wpOps P ops Q (List.range' (i + 1) l.length) (a.put o.dst undef) w := by
      intro sl hr hk
      obtain ⟨sl', hk, hr'⟩ := hr.putK_ (.ex _ undef) hk
      exact aops_ok l (i + 1) hl' hk hr' hQ
    rw [List.length_cons, List.range'_succ]
    simp only [wpOps, ho]
    unfold aops at hk
    split at hk
    · rename_i hg
      have hw : Region.wanted o (yielded ops a.tmps) = true := by simp [Region.wanted, hg]
      rw [if_pos hw]
      exact .inl (fin hr hk)
    · rename_i j want hg
      split at hk
      case h_2 => exact hk.elim
      rename_i g hgs
      split at hk
      · rename_i b hb
        have hlk := slotOf_look hb (by simp)
        have hy := (yields hr hgs).1 b hlk
        by_cases hbw : b = want
        · have hw : Region.wanted o (yielded ops a.tmps) = true := by simp [Region.wanted, hg, hy, hbw]
          rw [if_pos hw]
          exact .inl (fin (hr.again (by rw [hlk, hbw])) (hk.1 hbw))
        · have hbw' : b = (!want) := by cases b <;> cases want <;> simp_all
          have hw : ¬ Region.wanted o (yielded ops a.tmps) = true := by simp [Region.wanted, hg, hy, hbw]
          rw [if_neg hw]
          exact skip (hr.again (by rw [hlk, hbw'])) (hk.2 hbw')
      · rename_i us hb
        have hlk := slotOf_look hb (by simp)
        have hy := (yields hr hgs).2 us hlk
        have hw : ¬ Region.wanted o (yielded ops a.tmps) = true := by simp [Region.wanted, hg, hy]
        rw [if_neg hw]
        exact skip hr hk
      · exact hk.elim
end
end Go.Proofs.Ytfonmnodjmeigaa.Av
