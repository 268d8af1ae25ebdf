/- What the claim stands on, Su21: contracts of functions and plain facts. No conditions. -/
import Derived.Test.YtbaedepmogkkeaaGreatSu17
namespace Go.Proofs.YtbaedepmogkkeaaGreat.Av
set_option linter.unusedSimpArgs false
open Go Go.RowKit
set_option linter.unusedVariables false
set_option maxHeartbeats 1000000
theorem smWeak {P : Program} {f : FuncId} {args args' : List AV} {bs : List ABlk} {rargs : List AV} {r : AV} {bs' : List ABlk} (h : SoundM P f args bs rargs r bs') (hl : args'.length = args.length)
  (hw : ∀ (w : World) p c F (j : Nat) (h1 : j < args'.length) (h2 : j < args.length) (x : Value), Rep w p c F (ltD bs.length) args'[j] x → Rep w p c F (ltD bs.length) args[j] x) : SoundM P f args' bs rargs r bs' := by
 refine ⟨h.1, fun w p c F xs hx hr hb hF => ?_⟩
 have := h.2 w p c F xs (by rw [hx, hl]) (fun j hj => hw w p c F j (by omega) hj _ (hr j (by omega))) hb hF
 rw [hl]; exact this
theorem Rep.ex_inv2 {w : World} {p : Nat → Option Nat} {c : Nat → Nat} {F : Nat → Nat → Prop} {D : Nat → Prop} {v x : Value} (h : Rep w p c F D (.ex v) x) : x = v := by cases h; rfl
def Ren (n n2 : Nat) (σ : Nat → Nat) (v v2 : AV) : Prop := ∀ (w : World) p c F (x : Value), Rep w p c F (ltD n2) v2 x → Rep w (fun i => p (σ i)) (fun i => c (σ i)) F (ltD n) v x
theorem Ren.ex (n n2 : Nat) (σ : Nat → Nat) (v : Value) : Ren n n2 σ (.ex v) (.ex v) := fun w p c F x h => by rw [h.ex_inv2]; exact .ex _ _
theorem Ren.sl {n n2 r l : Nat} {σ : Nat → Nat} (hr : r < n) : Ren n n2 σ (.sl r l) (.sl (σ r) l) := fun w p c F x h => by
 cases h with
 | sl D r n' hd hn => exact .sl _ r l hr hn
theorem Ren.ptr {n n2 r o : Nat} {σ : Nat → Nat} (hr : r < n) : Ren n n2 σ (.ptr r o) (.ptr (σ r) o) := fun w p c F x h => by
 cases h with
 | ptr D r off g h1 h2 => exact .ptr _ r o g hr h2
structure RenB (n n2 : Nat) (σ : Nat → Nat) (b b2 : ABlk) : Prop where
 el : b2.el = b.el
 fz : b2.fz = b.fz
 pu : b2.pu = b.pu
 ob : isOb b2 = isOb b
 len : b2.cells.length = b.cells.length
 cells : (b.pu = true ∧ b2.cells = b.cells) ∨ (b.pu = false ∧ ∀ j (h : j < b.cells.length) (h2 : j < b2.cells.length), Ren n n2 σ b.cells[j] b2.cells[j])
theorem RenB.same {n n2 : Nat} {σ : Nat → Nat} {b : ABlk} (h : b.pu = true) : RenB n n2 σ b b := ⟨rfl, rfl, rfl, rfl, rfl, .inl ⟨h, rfl⟩⟩
theorem smSl {P : Program} {f : FuncId} {pre pre2 : List AV} {n k : Nat} {cs : List AV} {el : Option TypeId} {fz : Bool} {bs bs2 : List ABlk} {rargs : List AV} {r : AV} {bs' : List ABlk} (σ : Nat → Nat)
  (hk : bs2[k]? = some ⟨cs, el, fz, true⟩) (hσ : ∀ i, i < bs.length → σ i < bs2.length ∧ σ i ≠ k) (hσi : ∀ i j, i < bs.length → j < bs.length → σ i = σ j → i = j)
  (hbs : ∀ i (h : i < bs.length), ∃ b2, bs2[σ i]? = some b2 ∧ RenB bs.length bs2.length σ bs[i] b2)
  (hpl : pre2.length = pre.length) (hpre : ∀ j (h : j < pre.length) (h2 : j < pre2.length), Ren bs.length bs2.length σ pre[j] pre2[j])
  (h : SoundM P f (pre ++ [.vs n cs]) bs rargs r bs') : SoundM P f (pre2 ++ [.sl k n]) bs2 rargs r bs' := by
 refine ⟨h.1, fun w p c F xs hx hr hb hF => ?_⟩
 have hxs : xs.size = pre.length + 1 := by rw [hx]; simp [hpl]
 have hlive := hb.live k ⟨cs, el, fz, true⟩ hk
 have hrl := hr pre2.length (by simp)
 rw [List.getElem_append_right (Nat.le_refl _)] at hrl
 simp only [Nat.sub_self, List.getElem_singleton] at hrl
 rw [hpl] at hrl
 generalize hX : xs.getD pre.length undef = X at hrl
 have hlt : ∀ {i : Nat} {b : ABlk}, bs[i]? = some b → ∃ h : i < bs.length, bs[i] = b := fun {i b} hi => by
  have hl : i < bs.length := by
   apply Classical.byContradiction; intro hn
   rw [List.getElem?_eq_none (by omega)] at hi; cases hi
  rw [List.getElem?_eq_getElem hl] at hi; injection hi with hi
  exact ⟨hl, hi⟩
 have hto : ∀ {i : Nat} {b : ABlk}, bs[i]? = some b → i < bs.length ∧ ∃ b2, bs2[σ i]? = some b2 ∧ RenB bs.length bs2.length σ b b2 := fun {i b} hi => by
  obtain ⟨hl, rfl⟩ := hlt hi
  exact ⟨hl, hbs i hl⟩
 have hkl : k < bs2.length := by
  apply Classical.byContradiction; intro hn
  rw [List.getElem?_eq_none (by omega)] at hk; cases hk
 have hfoot : ∀ {b b2 : ABlk} {g x : Nat} {w : World}, isOb b2 = isOb b → foot w b g x → foot w b2 g x := fun e hf => by
  unfold foot at *; rw [e]; exact hf
 have hin : ∀ x, inM w (fun i => p (σ i)) bs x → inM w p bs2 x := fun x ⟨i, b, g, h1, h2, h3⟩ => by
  obtain ⟨hi, b2, e1, e2⟩ := hto h1
  exact ⟨σ i, b2, g, e1, h2, hfoot e2.ob h3⟩
 -- what is frozen
 obtain ⟨F2, hF2a, hF2b, hF2l, hrep⟩ : ∃ F2 : Nat → Nat → Prop, (∀ g j, F g j → F2 g j) ∧ (∀ g j, F2 g j → F g j ∨ p k = some g) ∧ (∀ g j, F2 g j → g < w.heap.size) ∧
   Rep w (fun i => p (σ i)) (fun i => c (σ i)) F2 (ltD bs.length) (.vs n cs) X := by
  cases hrl with
  | sl D r n' hd hn =>
   unfold BlkOk at hlive
   cases hp : p k with
   | none =>
    rw [hp] at hlive
    simp only at hlive
    obtain ⟨e1, e2, _⟩ := hlive
    refine ⟨F, fun _ _ h => h, fun _ _ h => .inl h, fun g j h => hF g j h, ?_⟩
    rw [e2] at hn ⊢
    obtain rfl : n = 0 := by omega
    subst e1
    exact .vnil _
   | some g =>
    rw [hp] at hlive
    simp only at hlive
    obtain ⟨us, t, fr, k1, k2, k3, k4, k5⟩ := hlive
    have hg : g < w.heap.size := by
     apply Classical.byContradiction; intro hn
     rw [Array.getElem?_eq_none (by omega)] at k1; cases k1
    refine ⟨fun g' j => F g' j ∨ (g' = g ∧ j < cs.length), fun _ _ h => .inl h, fun g' j h => ?_, fun g' j h => ?_, ?_⟩
    ·rcases h with h | ⟨rfl, _⟩
     ·exact .inl h
     ·exact .inr rfl
    ·rcases h with h | ⟨rfl, _⟩
     ·exact hF g' j h
     ·exact hg
    ·show Rep w _ _ _ (ltD bs.length) (.vs n cs) (.slice (some ⟨g, 0, none⟩) n (c k))
     refine .vs _ n cs g 0 (c k) (fun j => us.getD j undef) hn (fun j hj => ⟨.inr ⟨rfl, by omega⟩, by rw [Nat.zero_add]; exact cell_at k1 (by omega)⟩) fun j hj => ?_
     have := k4 j hj
     simp only [if_true] at this
     exact this.mono ⟨fun _ h => h.elim, fun _ _ h => .inl h, fun _ _ _ => rfl⟩
 have hext : ∀ D, Ext w D (fun i => p (σ i)) (fun i => c (σ i)) F w D (fun i => p (σ i)) (fun i => c (σ i)) F2 := fun D => ⟨fun r hr => ⟨hr, rfl, rfl⟩, hF2a, fun _ _ _ => rfl⟩
 have hargs : ∀ j (hj : j < (pre ++ [AV.vs n cs]).length), Rep w (fun i => p (σ i)) (fun i => c (σ i)) F2 (ltD bs.length) (pre ++ [AV.vs n cs])[j] (xs.getD j undef) := fun j hj => by
  by_cases hp : j < pre.length
  ·rw [List.getElem_append_left hp]
   have := hr j (by simp; omega)
   rw [List.getElem_append_left (by omega)] at this
   exact (hpre j hp (by omega) w p c F _ this).mono (hext _)
  ·have hj2 : j = pre.length := by simp at hj; omega
   subst hj2
   rw [List.getElem_append_right (Nat.le_refl _)]
   simp only [Nat.sub_self, List.getElem_singleton]
   rw [hX]; exact hrep
 have hblks : BlksOk P w (fun i => p (σ i)) (fun i => c (σ i)) F2 bs := by
  refine ⟨fun i b hi => ?_, fun i i' g h1 h2 q1 q2 => hσi i i' h1 h2 (hb.inj (σ i) (σ i') g (hσ i h1).1 (hσ i' h2).1 q1 q2), fun i b g j hi hp hf => ?_, fun i b K g hi hK hp => ?_⟩
  ·obtain ⟨hil, b2, e1, e2⟩ := hto hi
   have hx := hb.live (σ i) b2 e1
   unfold BlkOk at hx ⊢
   cases hpi : p (σ i) with
   | none =>
    rw [hpi] at hx
    simp only [hpi] at hx ⊢
    obtain ⟨x1, x2, x3⟩ := hx
    refine ⟨?_, x2, by rw [← e2.el]; exact x3⟩
    have := e2.len; rw [x1] at this; exact List.eq_nil_of_length_eq_zero this.symm
   | some g =>
    rw [hpi] at hx
    simp only [hpi] at hx ⊢
    obtain ⟨us, t, fr, k1, k2, k3, k4, k5⟩ := hx
    refine ⟨us, t, fr, k1, k2, by rw [← e2.len]; exact k3, fun j hj => ?_, fun e he => k5 e (by rw [e2.el]; exact he)⟩
    have hj2 : j < b2.cells.length := by rw [e2.len]; exact hj
    have hm := k4 j hj2
    rw [e2.pu] at hm
    rcases e2.cells with ⟨q1, q2⟩ | ⟨q1, q2⟩
    ·rw [q1] at hm ⊢
     simp only [if_true] at hm ⊢
     have : b2.cells[j] = b.cells[j] := by simp [q2]
     rw [this] at hm
     exact hm.mono ⟨fun _ h => h.elim, hF2a, fun _ _ _ => rfl⟩
    ·rw [q1] at hm ⊢
     exact (q2 j hj hj2 w p c F _ hm).mono (hext _)
  ·obtain ⟨hil, b2, e1, e2⟩ := hto hi
   rcases hF2b g j hf with hf | hf
   ·have := hb.fz (σ i) b2 g j e1 hp hf
    rw [e2.fz, e2.len] at this; exact this
   ·exact absurd (hb.inj (σ i) k g (hσ i hil).1 hkl hp hf) (hσ i hil).2
  ·obtain ⟨hil, b2, e1, e2⟩ := hto hi
   obtain ⟨o1, o2⟩ := hb.ob (σ i) b2 K g e1 (by rw [e2.ob]; exact hK) hp
   refine ⟨o1, fun x hx => ?_⟩
   obtain ⟨q1, q2, q3⟩ := o2 x hx
   refine ⟨q1, fun j hj => ?_, fun i' b' g' hi' hp' hne hf => ?_⟩
   ·rcases hF2b x j hj with hf | hf
    ·exact q2 j hf
    ·exact q3 k _ x hk hf (Ne.symm (hσ i hil).2) (.inl rfl)
   ·obtain ⟨hil', b2', e1', e2'⟩ := hto hi'
    exact q3 (σ i') b2' g' e1' hp' (fun e => hne (hσi i' i hil' hil e)) (hfoot e2'.ob hf)
 have hmine : ∀ g, (Ori.mk w (inM w (fun i => p (σ i)) bs) #[] []).mine g → (Ori.mk w (inM w p bs2) #[] []).mine g := fun g hg => hg.elim (fun h => Or.inl h) (fun h => Or.inr (hin g h))
 have hc := h.2 w (fun i => p (σ i)) (fun i => c (σ i)) F2 xs (by rw [hxs]; simp) hargs hblks hF2l
 refine hc.mono ?_
 clear hc
 rintro e w' ⟨v, p', c', F', h1, h2, h3, h4, h5, h6, h7, h8, h9⟩
 refine ⟨v, p', c', F', h1, ⟨h2.os, h2.tape, h2.output, h2.size, fun q hq => h2.block q fun hm => hq (hmine q hm)⟩, fun g j hj => h3 g j (hF2a g j hj), fun g j hj => ⟨(h4 g j hj).1, ?_⟩, h5, fun i b g x a1 a2 a3 => hmine x (h6 i b g x a1 a2 a3), by simp at h7 ⊢; omega, h8, h9⟩
 rcases (h4 g j hj).2 with q | q
 ·rcases hF2b g j q with q | q
  ·exact .inl q
  ·exact .inr (.inr ⟨k, _, g, hk, q, .inl rfl⟩)
 ·exact .inr (hmine g q)
end Go.Proofs.YtbaedepmogkkeaaGreat.Av
