/- What the claim stands on, Pl7: contracts of functions and plain facts. No conditions. -/
import Derived.Test.YtbaedepmogkkeaaGreatPl3
import Derived.Lib.ConvBytes
import Derived.Deep.AppendSrc
import Derived.Deep.Upon
import Derived.Laws.MakeOwn
import Derived.Laws.IdiomCopy
namespace Go.Proofs.YtbaedepmogkkeaaGreat.Av
open Go Go.RowKit
set_option linter.unusedVariables false
set_option linter.unusedSimpArgs false
section
section
variable {P : Program} {w w' : World} {w0 : Ori} {D : Nat → Prop} {p : Nat → Option Nat} {c : Nat → Nat} {F F0 : Nat → Nat → Prop} {m : Fr} {slots : Sl} {heap : Hp} {a : Act}
def moreF (F : Nat → Nat → Prop) (g n : Nat) : Nat → Nat → Prop := fun g' j => F g' j ∨ (g' = g ∧ j < n)
theorem Rel.moreF_ (h : Rel P w0 F0 m D p c F slots heap a w) {r g : Nat} {b : ABlk} (hr : look heap r = some (some b)) (hp : p r = some g) (hz : b.fz = true) :
  Rel P w0 F0 m D p c (moreF F g b.cells.length) slots heap a w := by
 have hl := h.live r b hr
 refine h.upd ⟨fun i hi => ⟨hi, rfl, rfl⟩, fun g j hj => .inl hj, fun _ _ _ => rfl⟩ (fun i b' hi => ⟨(h.live i b' hi).1, (h.live i b' hi).2.mono (h.live i b' hi).1 ⟨fun i hi => ⟨hi, rfl, rfl⟩, fun g j hj => .inl hj, fun _ _ _ => rfl⟩ fun _ _ => rfl⟩)
  h.inj h.own ?_ ?_ h.below
  (h.ob.step (fun r b K hr _ => ⟨hr, rfl⟩) (fun r b g hr hp _ => .inr ⟨r, b, hr, hp⟩) (fun r b K g _ _ _ => ⟨rfl, fun _ _ => rfl⟩) (fun g' j hj => by
   rcases hj with hj | ⟨rfl, hj⟩
   ·exact .inl hj
   ·exact .inr (.inr ⟨r, b, hr, isOb_fz hz, hp⟩)) (fun _ hx => hx) (Nat.le_refl _) h.inj)
 ·rintro g' j (hj | ⟨rfl, hj⟩)
  ·exact h.fr g' j hj
  ·exact ⟨hl.2.lt hp, .inr (h.own r b g' hr hp)⟩
 ·rintro i b' g' j hi hpi (hj | ⟨rfl, hj⟩)
  ·exact h.fz i b' g' j hi hpi hj
  ·have := h.inj i r b' b g' hi hr hpi hp
   subst this
   rw [hr] at hi; injection hi with hi; injection hi with hi; subst hi
   exact ⟨hz, hj⟩
theorem Rel.relay (h : Rel P w0 F0 m D p c F slots heap a w) {r : Nat} {b : ABlk} (hr : look heap r = some (some b)) : Rel P w0 F0 m D p c F slots ((r, some { b with fz := true }) :: heap) a w := by
 have key : ∀ i b', look ((r, some { b with fz := true }) :: heap) i = some (some b') → ∃ b0, look heap i = some (some b0) ∧ b'.cells = b0.cells ∧ b'.el = b0.el ∧ b'.pu = b0.pu ∧ (b0.fz = true → b'.fz = true) := by
  intro i b' hi
  rw [look_cons] at hi
  by_cases e : r = i
  ·subst e; rw [if_pos rfl] at hi; injection hi with hi; injection hi with hi; subst hi
   exact ⟨b, hr, rfl, rfl, rfl, fun _ => rfl⟩
  ·rw [if_neg e] at hi; exact ⟨b', hi, rfl, rfl, rfl, id⟩
 refine h.upd .refl (fun i b' hi => ?_) (fun i i' b1 b2 g h1 h2 => ?_) (fun i b' g hi => ?_) h.fr (fun i b' g j hi hpi hj => ?_) h.below
  (h.ob.step (fun i b' K hi hK => by
   rw [look_cons] at hi
   by_cases e : r = i
   ·subst e; rw [if_pos rfl] at hi; injection hi with hi; injection hi with hi; subst hi
    rw [isOb_fz rfl] at hK; cases hK
   ·rw [if_neg e] at hi; exact ⟨hi, rfl⟩) (fun i b' g hi hp _ => by obtain ⟨b0, h0, _⟩ := key i b' hi; exact .inr ⟨i, b0, h0, hp⟩) (fun r b K g _ _ _ => ⟨rfl, fun _ _ => rfl⟩) (fun _ _ hj => .inl hj) (fun _ hx => hx) (Nat.le_refl _) (fun i i' b1 b2 g h1 h2 => by
   obtain ⟨_, h1', _⟩ := key i b1 h1
   obtain ⟨_, h2', _⟩ := key i' b2 h2
   exact h.inj i i' _ _ g h1' h2'))
 ·obtain ⟨b0, h0, e1, e2, e3, _⟩ := key i b' hi
  have := h.live i b0 h0
  refine ⟨this.1, ?_⟩
  have h2 := this.2
  unfold BlkOk at h2 ⊢
  rw [e1, e2, e3]; exact h2
 ·obtain ⟨_, h1', _⟩ := key i b1 h1
  obtain ⟨_, h2', _⟩ := key i' b2 h2
  exact h.inj i i' _ _ g h1' h2'
 ·obtain ⟨_, h0, _⟩ := key i b' hi
  exact h.own i _ g h0
 ·obtain ⟨b0, h0, e1, _, _, e4⟩ := key i b' hi
  obtain ⟨k1, k2⟩ := h.fz i b0 g j h0 hpi hj
  exact ⟨e4 k1, by rw [e1]; exact k2⟩
def ViewF (h : Hp) (heap : Hp) : Prop := ∀ r b, blkOf h r = some b → ∃ f, look heap r = some (some { b with fz := f }) ∧ (b.fz = true → f = true)
theorem viewF_of {h heap : Hp} (hv : ∀ r b, blkOf h r = some b → look heap r = some (some b)) : ViewF h heap := fun r b hb => ⟨b.fz, hv r b hb, id⟩
theorem Rel.freezes_ {h : Hp} : ∀ (l : List Nat) {heap : Hp} {F : Nat → Nat → Prop}, Rel P w0 F0 m D p c F slots heap a w → ViewF h heap →
  ∃ F', Rel P w0 F0 m D p c F' slots (freezes h l ++ heap) a w ∧ (∀ g j, F g j → F' g j) ∧ ViewF h (freezes h l ++ heap) ∧
   ∀ r ∈ l, ∀ b, blkOf h r = some b → ∀ g, p r = some g → ∀ j, j < b.cells.length → F' g j
 | [], heap, F, hr, hv => ⟨F, hr, fun _ _ h => h, hv, fun r hr => absurd hr (by simp)⟩
 | r :: l, heap, F, hr, hv => by
  obtain ⟨F1, k1, k2, k3, k4⟩ := Rel.freezes_ l hr hv
  unfold freezes
  cases hb : blkOf h r with
  | none => exact ⟨F1, k1, k2, k3, fun r' hr' b' hb' => by
    rcases List.mem_cons.1 hr' with e | e
    ·subst e; rw [hb] at hb'; cases hb'
    ·exact k4 r' e b' hb'⟩
  | some b =>
   obtain ⟨cs, el, fz, pu⟩ := b
   obtain ⟨f, hf1, hf2⟩ := k3 r _ hb
   have fin : ∀ {heap' : Hp}, Rel P w0 F0 m D p c F1 slots heap' a w → look heap' r = some (some ⟨cs, el, true, pu⟩) → ViewF h heap' →
     ∃ F', Rel P w0 F0 m D p c F' slots heap' a w ∧ (∀ g j, F g j → F' g j) ∧ ViewF h heap' ∧ ∀ r' ∈ r :: l, ∀ b, blkOf h r' = some b → ∀ g, p r' = some g → ∀ j, j < b.cells.length → F' g j := by
    intro heap' q1 q2 q3
    cases hp : p r with
    | none => exact ⟨F1, q1, k2, q3, fun r' hr' b' hb' g hg => by
      rcases List.mem_cons.1 hr' with e | e
      ·subst e; rw [hp] at hg; cases hg
      ·exact k4 r' e b' hb' g hg⟩
    | some g0 => exact ⟨_, q1.moreF_ q2 hp rfl, fun g j hj => .inl (k2 g j hj), q3, fun r' hr' b' hb' g hg j hj => by
      rcases List.mem_cons.1 hr' with e | e
      ·subst e
       rw [hb] at hb'; injection hb' with hb'; subst hb'
       rw [hp] at hg; injection hg with hg
       exact .inr ⟨hg.symm, hj⟩
      ·exact .inl (k4 r' e b' hb' g hg j hj)⟩
   cases fz with
   | true =>
    simp only at hf2
    have : f = true := hf2 trivial
    subst this
    exact fin k1 hf1 k3
   | false =>
    refine fin (heap' := (r, some ⟨cs, el, true, pu⟩) :: (freezes h l ++ heap)) (k1.relay hf1) (by rw [look_cons, if_pos rfl]) ?_
    intro r' b' hb'
    rw [look_cons]
    by_cases e : r = r'
    ·subst e
     rw [hb] at hb'; injection hb' with hb'; subst hb'
     exact ⟨true, by rw [if_pos rfl], fun _ => rfl⟩
    ·rw [if_neg e]; exact k3 r' b' hb'
theorem packC_ok {h : Hp} {v v' : AV} {x : Value} {fr : List Nat} (hp : packC h v = some (v', fr)) (hr : Rep w p c F D v x)
  (hl : ∀ r b, blkOf h r = some b → BlkOk P w D p c F r b) (hf : ∀ r ∈ fr, ∀ b, blkOf h r = some b → ∀ g, p r = some g → ∀ j, j < b.cells.length → F g j) : Rep w p c F noD v' x := by
 cases v with
 | ex v => simp [packC] at hp; obtain ⟨rfl, rfl⟩ := hp; rw [hr.ex_inv]; exact .ex _ _
 | unk => simp [packC] at hp; obtain ⟨rfl, rfl⟩ := hp; exact .unk _ _
 | vs n cs =>
  simp [packC] at hp; obtain ⟨rfl, rfl⟩ := hp
  rcases hr.vs_inv with ⟨rfl, rfl, a0, rfl⟩ | ⟨g, q, k, u, h1, rfl, h2⟩
  ·exact .vnil _
  ·exact .vs _ n cs g q k u h1 h2.1 h2.2
 | vf n cs =>
  simp [packC] at hp; obtain ⟨rfl, rfl⟩ := hp
  rcases hr.vf_inv with ⟨rfl, rfl, a0, rfl⟩ | ⟨g, q, u, rfl, h2⟩
  ·exact .fnil _
  ·exact .vf _ n cs g q u h2.1 h2.2
 | clo f cs =>
  simp [packC] at hp; obtain ⟨rfl, rfl⟩ := hp
  obtain ⟨us, rfl, h1, h2⟩ := hr.clo_inv
  exact .clo _ f cs us h1 h2
 | pt b cs =>
  simp [packC] at hp; obtain ⟨rfl, rfl⟩ := hp
  rcases hr.pt_inv with ⟨rfl, rfl⟩ | ⟨rfl, g, q, u, rfl, h2⟩
  ·exact .pt0 _ cs
  ·exact .pt1 _ cs g q u h2.1 h2.2
 | vp cs off =>
  simp [packC] at hp; obtain ⟨rfl, rfl⟩ := hp
  obtain ⟨g, q, u, rfl, h2⟩ := hr.vp_inv
  exact .vp _ cs off g q u h2.1 h2.2
 | vq cs off =>
  simp [packC] at hp; obtain ⟨rfl, rfl⟩ := hp
  obtain ⟨g, q, u, rfl, h2⟩ := hr.vq_inv
  exact .vq _ cs off g q u h2.1 h2.2
 | sl r n =>
  unfold packC at hp
  dsimp only at hp
  cases hb : blkOf h r with
  | none => rw [hb] at hp; cases hp
  | some b =>
   obtain ⟨cs, el, fz, pu⟩ := b
   rw [hb] at hp
   cases pu with
   | false => cases hp
   | true =>
    simp only [Option.some.injEq, Prod.mk.injEq] at hp
    obtain ⟨rfl, rfl⟩ := hp
    obtain ⟨hd, hn, rfl⟩ := hr.sl_inv
    have hB := hl r _ hb
    cases hp : p r with
    | none =>
     unfold BlkOk at hB
     rw [hp] at hB
     obtain ⟨h1, h2, _⟩ := hB
     simp only at h1
     have : n = 0 := by omega
     subst this h1
     rw [h2]; exact .vnil _
    | some g =>
     obtain ⟨us, t, frz, k1, k2, k3, k4, k5⟩ := hB.at hp
     exact .vs _ n cs g 0 (c r) (fun j => us.getD j undef) hn (fun j hj => ⟨by rw [Nat.zero_add]; exact hf r (by simp) _ hb g hp j hj, by rw [Nat.zero_add]; exact cell_at k1 (by simp only at k3; omega)⟩) fun j hj => k4 j hj
 | ptr r off =>
  cases off with
  | succ _ => simp [packC] at hp
  | zero =>
   simp only [packC] at hp
   cases hb : blkOf h r with
   | none => rw [hb] at hp; cases hp
   | some b =>
    obtain ⟨cs, el, fz, pu⟩ := b
    rw [hb] at hp
    cases pu with
    | false => cases hp
    | true =>
     simp only [Option.some.injEq, Prod.mk.injEq] at hp
     obtain ⟨rfl, rfl⟩ := hp
     obtain ⟨g, hd, hp, rfl⟩ := hr.ptr_inv
     obtain ⟨us, t, frz, k1, k2, k3, k4, k5⟩ := (hl r _ hb).at hp
     exact .vp _ cs 0 g 0 (fun j => us.getD j undef) (fun j hj => ⟨by rw [Nat.zero_add]; exact hf r (by simp) _ hb g hp j hj, by rw [Nat.zero_add]; exact cell_at k1 (by simp only at k3; omega)⟩) fun j hj => k4 j hj
 | ob K => cases hp
 | bm f r => cases hp
 | own e n cs => cases hp
 | agg cs => cases hp
 | tup cs => cases hp
theorem packL_ok {h : Hp} : ∀ {cs cs' : List AV} {us : List Value} {fr : List Nat}, packL h cs = some (cs', fr) → us.length = cs.length → (∀ j (hj : j < cs.length), Rep w p c F D cs[j] (us.getD j undef)) →
  (∀ r b, blkOf h r = some b → BlkOk P w D p c F r b) → (∀ r ∈ fr, ∀ b, blkOf h r = some b → ∀ g, p r = some g → ∀ j, j < b.cells.length → F g j) →
  cs'.length = cs.length ∧ ∀ j (hj : j < cs'.length), Rep w p c F noD cs'[j] (us.getD j undef)
 | [], cs', us, fr, hp, hs, hr, hl, hf => by simp [packL] at hp; obtain ⟨rfl, rfl⟩ := hp; exact ⟨rfl, fun j hj => by simp at hj⟩
 | v :: l, cs', us, fr, hp, hs, hr, hl, hf => by
  unfold packL at hp
  cases h1 : packC h v with
  | none => rw [h1] at hp; cases hp
  | some q =>
   obtain ⟨v', f1⟩ := q
   rw [h1] at hp
   simp only at hp
   cases h2 : packL h l with
   | none => rw [h2] at hp; cases hp
   | some q =>
    obtain ⟨l', f2⟩ := q
    rw [h2] at hp
    simp only [Option.some.injEq, Prod.mk.injEq] at hp
    obtain ⟨rfl, rfl⟩ := hp
    cases us with
    | nil => simp at hs
    | cons u us =>
     obtain ⟨e1, e2⟩ := packL_ok (us := us) h2 (by simpa using hs) (fun j hj => hr (j + 1) (Nat.succ_lt_succ hj)) hl (fun r hr => hf r (List.mem_append_right _ hr))
     refine ⟨by simp [e1], fun j hj => ?_⟩
     cases j with
     | zero => exact packC_ok h1 (hr 0 (Nat.zero_lt_succ _)) hl (fun r hr => hf r (List.mem_append_left _ hr))
     | succ j => exact e2 j (Nat.lt_of_succ_lt_succ hj)
theorem packV_ok {h : Hp} {v v' : AV} {x : Value} {fr : List Nat} (hp : packV h v = some (v', fr)) (hr : Rep w p c F D v x)
  (hl : ∀ r b, blkOf h r = some b → BlkOk P w D p c F r b) (hf : ∀ r ∈ fr, ∀ b, blkOf h r = some b → ∀ g, p r = some g → ∀ j, j < b.cells.length → F g j) : Rep w p c F noD v' x := by
 cases v with
 | agg cs =>
  unfold packV at hp
  dsimp only at hp
  cases h2 : packL h cs with
  | none => rw [h2] at hp; cases hp
  | some q =>
   obtain ⟨l', f2⟩ := q
   rw [h2] at hp
   simp only [Option.some.injEq, Prod.mk.injEq] at hp
   obtain ⟨rfl, rfl⟩ := hp
   obtain ⟨us, rfl, hs, hr⟩ := hr.agg_inv
   obtain ⟨e1, e2⟩ := packL_ok (us := us.toList) h2 (by simpa using hs) (fun j hj => by simpa [List.getD] using hr j hj) hl hf
   exact .agg _ _ us (by omega) fun j hj => by simpa [List.getD] using e2 j hj
 | _ => simp only [packV] at hp; exact packC_ok hp hr hl hf
theorem packVs_ok {h : Hp} : ∀ {cs cs' : List AV} {us : List Value} {fr : List Nat}, packVs h cs = some (cs', fr) → us.length = cs.length → (∀ j (hj : j < cs.length), Rep w p c F D cs[j] (us.getD j undef)) →
  (∀ r b, blkOf h r = some b → BlkOk P w D p c F r b) → (∀ r ∈ fr, ∀ b, blkOf h r = some b → ∀ g, p r = some g → ∀ j, j < b.cells.length → F g j) →
  cs'.length = cs.length ∧ ∀ j (hj : j < cs'.length), Rep w p c F noD cs'[j] (us.getD j undef)
 | [], cs', us, fr, hp, hs, hr, hl, hf => by simp [packVs] at hp; obtain ⟨rfl, rfl⟩ := hp; exact ⟨rfl, fun j hj => by simp at hj⟩
 | v :: l, cs', us, fr, hp, hs, hr, hl, hf => by
  unfold packVs at hp
  cases h1 : packV h v with
  | none => rw [h1] at hp; cases hp
  | some q =>
   obtain ⟨v', f1⟩ := q
   rw [h1] at hp
   simp only at hp
   cases h2 : packVs h l with
   | none => rw [h2] at hp; cases hp
   | some q =>
    obtain ⟨l', f2⟩ := q
    rw [h2] at hp
    simp only [Option.some.injEq, Prod.mk.injEq] at hp
    obtain ⟨rfl, rfl⟩ := hp
    cases us with
    | nil => simp at hs
    | cons u us =>
     obtain ⟨e1, e2⟩ := packVs_ok (us := us) h2 (by simpa using hs) (fun j hj => hr (j + 1) (Nat.succ_lt_succ hj)) hl (fun r hr => hf r (List.mem_append_right _ hr))
     refine ⟨by simp [e1], fun j hj => ?_⟩
     cases j with
     | zero => exact packV_ok h1 (hr 0 (Nat.zero_lt_succ _)) hl (fun r hr => hf r (List.mem_append_left _ hr))
     | succ j => exact e2 j (Nat.lt_of_succ_lt_succ hj)
end
/-! ### calls -/
section
variable (P : Program)
def OwnOk (base : Nat) (w : World) (p : Nat → Option Nat) (c : Nat → Nat) (F : Nat → Nat → Prop) (e : TypeId) (n : Nat) (cs : List AV) (x : Value) : Prop :=
 (x = .slice none 0 0 ∧ n = 0 ∧ cs = []) ∨ ∃ (g k : Nat) (us : Array Value) (fr : Nat × Nat), x = .slice (some ⟨g, 0, none⟩) n k ∧ base ≤ g ∧ n ≤ k ∧ k ≤ 9223372036854775807 ∧ w.heap[g]? = some (.cells us e fr) ∧
  us.size ≤ fr.1 + (if fr.1 = fr.2 then us.size else 0) ∧ us.size = k * sizeT P e ∧ cs.length ≤ us.size ∧ (∀ j (h : j < cs.length), Rep w p c F noD cs[j] (us.getD j undef)) ∧ (∀ j, F g j → j < cs.length)
def RepRL (base : Nat) (w : World) (p : Nat → Option Nat) (c : Nat → Nat) (F : Nat → Nat → Prop) : List AV → List Value → Prop
 | [], [] => True
 | .own e n cs :: l, x :: us => OwnOk P base w p c F e n cs x ∧ us.length = l.length ∧ ∀ j (h : j < l.length), Rep w p c F noD l[j] (us.getD j undef)
 | v :: l, x :: us => Rep w p c F noD v x ∧ RepRL base w p c F l us
 | _, _ => False
def RepR (base : Nat) (w : World) (p : Nat → Option Nat) (c : Nat → Nat) (F : Nat → Nat → Prop) : AV → Value → Prop
 | .own e n cs, x => OwnOk P base w p c F e n cs x
 | .tup vs, x => ∃ us : List Value, x = .tuple us.toArray ∧ RepRL P base w p c F vs us
 | v, x => Rep w p c F noD v x
def p0 : Nat → Option Nat := fun _ => none
def c0 : Nat → Nat := fun _ => 0
def Sound (f : FuncId) (args : List AV) (r : AV) : Prop :=
 (∀ (xs : Array Value) (w : World), (callFunc f xs).run P w = .ok (.enter f xs) w) ∧
 ∀ (w : World) (F : Nat → Nat → Prop) (xs : Array Value), xs.size = args.length → (∀ j (h : j < args.length), Rep w p0 c0 F noD args[j] (xs.getD j undef)) → (∀ g j, F g j → g < w.heap.size) →
  Calls P f xs w fun e w' => ∃ v F', e = .returned v ∧ Below w.heap.size w w' ∧ (∀ g j, F g j → F' g j) ∧ (∀ g j, F' g j → F g j ∨ (w.heap.size ≤ g ∧ g < w'.heap.size)) ∧ RepR P w.heap.size w' p0 c0 F' r v
end
end
section
section
variable {P : Program} {w w' : World} {w0 : Ori} {D : Nat → Prop} {p : Nat → Option Nat} {c : Nat → Nat} {F F' F0 : Nat → Nat → Prop} {m : Fr} {slots : Sl} {heap : Hp} {a : Act}
theorem Rel.grow (h : Rel P w0 F0 m D p c F slots heap a w) (hb : Below w.heap.size w w') (hF : ∀ g j, F g j → F' g j) (hF2 : ∀ g j, F' g j → F g j ∨ (w.heap.size ≤ g ∧ g < w'.heap.size)) :
  Rel P w0 F0 m D p c F' slots heap a w' := by
 have e : Ext w D p c F w' D p c F' := ⟨fun r hr => ⟨hr, rfl, rfl⟩, hF, (h.ext_below hb).cell⟩
 refine h.upd e (fun r b hr => ⟨(h.live r b hr).1, (h.live r b hr).2.mono (h.live r b hr).1 e fun g hg => hb.block g ((h.live r b hr).2.lt hg)⟩) h.inj h.own ?_ ?_ (h.below.grow hb)
  (h.ob.step (fun r b K hr _ => ⟨hr, rfl⟩) (fun r b g hr hp _ => .inr ⟨r, b, hr, hp⟩) (fun r b K g hr hK hp => ⟨hb.block g ((h.live r b hr).2.lt hp), fun x hx => hb.block x ((h.ob r b K g hr hK hp).2 x hx).2.1⟩) (fun g j hj => by rcases hF2 g j hj with h1 | ⟨h1, _⟩; exact .inl h1; exact .inr (.inl h1)) (fun _ hx => hx) hb.size h.inj)
 ·intro g j hj
  rcases hF2 g j hj with h1 | ⟨h1, h2⟩
  ·exact ⟨Nat.lt_of_lt_of_le (h.fr g j h1).1 hb.size, (h.fr g j h1).2⟩
  ·exact ⟨h2, .inr (h.below.mine_of h1)⟩
 ·intro r b g j hr hp hj
  rcases hF2 g j hj with h1 | ⟨h1, _⟩
  ·exact h.fz r b g j hr hp h1
  ·have := (h.live r b hr).2.lt hp; omega
theorem Rel.newNil (h : Rel P w0 F0 m D p c F slots heap a w) {r : Nat} (hr : ¬ D r) (e : TypeId) (fz pu : Bool) :
  Rel P w0 F0 m (addD D r) (setAt p r none) (setAt c r 0) F slots ((r, some ⟨[], some e, fz, pu⟩) :: heap) a w := by
 have hne : ∀ i, D i → i ≠ r := fun i hi e => hr (e ▸ hi)
 have ex : Ext w D p c F w (addD D r) (setAt p r none) (setAt c r 0) F := ⟨fun i hi => ⟨.inl hi, setAt_ne p _ (hne i hi), setAt_ne c _ (hne i hi)⟩, fun _ _ h => h, fun _ _ _ => rfl⟩
 have key : ∀ i b' g, look ((r, some ⟨[], some e, fz, pu⟩) :: heap) i = some (some b') → setAt p r none i = some g → look heap i = some (some b') ∧ p i = some g := by
  intro i b' g hi hp
  rw [look_cons] at hi
  by_cases hir : r = i
  ·subst hir; rw [setAt_same] at hp; cases hp
  ·rw [if_neg hir] at hi
   rw [setAt_ne p _ (Ne.symm hir)] at hp
   exact ⟨hi, hp⟩
 refine h.upd ex (fun i b' hi => ?_) (fun i i' b1 b2 g h1 h2 p1 p2 => ?_) (fun i b' g hi hp => h.own i b' g (key i b' g hi hp).1 (key i b' g hi hp).2) h.fr (fun i b' g j hi hp hj => h.fz i b' g j (key i b' g hi hp).1 (key i b' g hi hp).2 hj) h.below
  (h.ob.step (fun i b' K hi hK => by
   rw [look_cons] at hi
   by_cases hir : r = i
   ·subst hir; rw [if_pos rfl] at hi; injection hi with hi; injection hi with hi; subst hi
    rw [isOb_el (by simp)] at hK; cases hK
   ·rw [if_neg hir] at hi; exact ⟨hi, setAt_ne p _ (Ne.symm hir)⟩) (fun i b' g hi hp _ => .inr ⟨i, b', (key i b' g hi hp).1, (key i b' g hi hp).2⟩) (fun r b K g _ _ _ => ⟨rfl, fun _ _ => rfl⟩) (fun _ _ hj => .inl hj) (fun _ hx => hx) (Nat.le_refl _)
   (fun i i' b1 b2 g h1 h2 p1 p2 => h.inj i i' b1 b2 g (key i b1 g h1 p1).1 (key i' b2 g h2 p2).1 (key i b1 g h1 p1).2 (key i' b2 g h2 p2).2))
 ·rw [look_cons] at hi
  by_cases hir : r = i
  ·subst hir; rw [if_pos rfl] at hi; injection hi with hi; injection hi with hi; subst hi
   refine ⟨.inr rfl, ?_⟩
   unfold BlkOk; rw [setAt_same]
   exact ⟨rfl, by rw [setAt_same], by simp⟩
  ·rw [if_neg hir] at hi
   have := h.live i b' hi
   exact ⟨.inl this.1, this.2.mono this.1 ex fun _ _ => rfl⟩
 ·exact h.inj i i' b1 b2 g (key i b1 g h1 p1).1 (key i' b2 g h2 p2).1 (key i b1 g h1 p1).2 (key i' b2 g h2 p2).2
theorem Rel.newOwn (h : Rel P w0 F0 m D p c F slots heap a w) (hb : Below w.heap.size w w') (hF : ∀ g j, F g j → F' g j) (hF2 : ∀ g j, F' g j → F g j ∨ (w.heap.size ≤ g ∧ g < w'.heap.size))
  {r e n : Nat} {cs : List AV} {x : Value} (hr : ¬ D r) (ho : OwnOk P w.heap.size w' p0 c0 F' e n cs x) :
  ∃ p' c', Rel P w0 F0 m (addD D r) p' c' F' slots ((r, some ⟨cs, some e, true, true⟩) :: heap) a w' ∧ Rep w' p' c' F' (addD D r) (.sl r n) x := by
 rcases ho with ⟨rfl, rfl, rfl⟩ | ⟨g, k, us, fr, rfl, h1, h2, h3, h4, h5, h6, h7, h8, h9⟩
 ·refine ⟨_, _, (h.grow hb hF hF2).newNil hr e true true, ?_⟩
  have := Rep.sl (w := w') (p := setAt p r none) (c := setAt c r 0) (F := F') (addD D r) r 0 (.inr rfl) (by rw [setAt_same]; omega)
  rw [setAt_same, setAt_same] at this
  exact this
 ·have hlt : g < w'.heap.size := by
   apply Classical.byContradiction
   intro hn
   rw [Array.getElem?_eq_none (by omega)] at h4
   cases h4
  refine ⟨setAt p r (some g), setAt c r k, h.new hb hr h1 hlt hF hF2 (fun j hj => ⟨rfl, h9 j hj⟩) (isOb_fz rfl) ?_, ?_⟩
  ·unfold BlkOk; rw [setAt_same]
   exact ⟨us, e, fr, h4, h5, h7, fun j hj => (h8 j hj).of_no, fun e' he => by injection he with he; subst he; rw [setAt_same]; exact ⟨rfl, h6, h3⟩⟩
  ·have := Rep.sl (w := w') (p := setAt p r (some g)) (c := setAt c r k) (F := F') (addD D r) r n (.inr rfl) (by rw [setAt_same]; omega)
   rw [setAt_same, setAt_same] at this
   exact this
theorem unpackL_ok {base nx : Nat} : ∀ {vs vs' : List AV} {us : List Value} {d : Hp} {n : Nat}, RepRL P base w p c F vs us → unpackL nx vs = (vs', d, n) →
  us.length = vs'.length ∧ ((n = 0 ∧ d = [] ∧ ∀ j (h : j < vs'.length), Rep w p c F noD vs'[j] (us.getD j undef)) ∨
   (n = 1 ∧ ∃ e k cs x, d = [(nx, some ⟨cs, some e, true, true⟩)] ∧ OwnOk P base w p c F e k cs x ∧ ∀ (D' : Nat → Prop) p' c', Rep w p' c' F D' (.sl nx k) x → ∀ j (h : j < vs'.length), Rep w p' c' F D' vs'[j] (us.getD j undef)))
 | [], vs', [], d, n, h, hu => by
  simp [unpackL] at hu; obtain ⟨rfl, rfl, rfl⟩ := hu
  exact ⟨rfl, .inl ⟨rfl, rfl, fun j h => by simp at h⟩⟩
 | [], vs', _ :: _, d, n, h, hu => h.elim
 | v :: l, vs', [], d, n, h, hu => by cases v <;> exact h.elim
 | v :: l, vs', x :: us, d, n, h, hu => by
  by_cases hv : ∃ e k cs, v = .own e k cs
  ·obtain ⟨e, k, cs, rfl⟩ := hv
   simp [unpackL] at hu; obtain ⟨rfl, rfl, rfl⟩ := hu
   obtain ⟨h1, h2, h3⟩ := h
   refine ⟨by simp [h2], .inr ⟨rfl, e, k, cs, x, rfl, h1, fun D' p' c' hr j hj => ?_⟩⟩
   cases j with
   | zero => exact hr
   | succ j => exact (h3 j (Nat.lt_of_succ_lt_succ hj)).of_no
  ·have hn : RepRL P base w p c F (v :: l) (x :: us) → Rep w p c F noD v x ∧ RepRL P base w p c F l us := by
    intro h
    cases v <;> first | exact h | exact absurd ⟨_, _, _, rfl⟩ hv
   obtain ⟨h1, h2⟩ := hn h
   have hu' : unpackL nx (v :: l) = (v :: (unpackL nx l).1, (unpackL nx l).2.1, (unpackL nx l).2.2) := by
    cases v <;> first | rfl | exact absurd ⟨_, _, _, rfl⟩ hv
   rw [hu'] at hu
   simp only [Prod.mk.injEq] at hu
   obtain ⟨rfl, rfl, rfl⟩ := hu
   obtain ⟨k1, k2⟩ := unpackL_ok (nx := nx) h2 rfl
   refine ⟨by simp [k1], ?_⟩
   rcases k2 with ⟨q1, q2, q3⟩ | ⟨q1, e, k, cs, y, q2, q3, q4⟩
   ·refine .inl ⟨q1, q2, fun j hj => ?_⟩
    cases j with
    | zero => exact h1
    | succ j => exact q3 j (Nat.lt_of_succ_lt_succ hj)
   ·refine .inr ⟨q1, e, k, cs, y, q2, q3, fun D' p' c' hr j hj => ?_⟩
    cases j with
    | zero => exact h1.of_no
    | succ j => exact q4 D' p' c' hr j (Nat.lt_of_succ_lt_succ hj)
theorem unpack_ok (h : Rel P w0 F0 m D p c F slots heap a w) (hb : Below w.heap.size w w') (hF : ∀ g j, F g j → F' g j) (hF2 : ∀ g j, F' g j → F g j ∨ (w.heap.size ≤ g ∧ g < w'.heap.size))
  {nx n : Nat} {r v : AV} {d : Hp} {x : Value} (hu : unpack nx r = (v, d, n)) (hr : ∀ i, nx ≤ i → i < nx + n → ¬ D i) (hR : RepR P w.heap.size w' p0 c0 F' r x) :
  ∃ D' p' c', Rel P w0 F0 m D' p' c' F' slots (d ++ heap) a w' ∧ Rep w' p' c' F' D' v x ∧ (∀ i, D' i ↔ D i ∨ (nx ≤ i ∧ i < nx + n)) := by
 have iff0 : ∀ i, D i ↔ D i ∨ (nx ≤ i ∧ i < nx + 0) := fun i => ⟨.inl, fun h => by rcases h with h | h; exact h; omega⟩
 have iff1 : ∀ i, addD D nx i ↔ D i ∨ (nx ≤ i ∧ i < nx + 1) := fun i => ⟨fun h => by rcases h with h | h; exact .inl h; exact .inr ⟨by omega, by omega⟩, fun h => by rcases h with h | h; exact .inl h; exact .inr (by omega)⟩
 have plain : ∀ {r : AV}, unpack nx r = (r, [], 0) → RepR P w.heap.size w' p0 c0 F' r x → (RepR P w.heap.size w' p0 c0 F' r x → Rep w' p0 c0 F' noD r x) → unpack nx r = (v, d, n) →
   ∃ D' p' c', Rel P w0 F0 m D' p' c' F' slots (d ++ heap) a w' ∧ Rep w' p' c' F' D' v x ∧ (∀ i, D' i ↔ D i ∨ (nx ≤ i ∧ i < nx + n)) := by
  intro r e hR hp hu
  rw [e] at hu
  simp only [Prod.mk.injEq] at hu
  obtain ⟨rfl, rfl, rfl⟩ := hu
  exact ⟨D, p, c, h.grow hb hF hF2, (hp hR).of_no, iff0⟩
 cases r with
 | own e k cs =>
  simp [unpack, unpackV] at hu
  obtain ⟨rfl, rfl, rfl⟩ := hu
  obtain ⟨p', c', h1, h2⟩ := h.newOwn hb hF hF2 (hr nx (Nat.le_refl _) (by omega)) hR
  exact ⟨_, p', c', h1, h2, iff1⟩
 | tup vs =>
  obtain ⟨us, rfl, hL⟩ := hR
  simp only [unpack, Prod.mk.injEq] at hu
  obtain ⟨rfl, rfl, rfl⟩ := hu
  obtain ⟨k1, k2⟩ := unpackL_ok (nx := nx) hL rfl
  rcases k2 with ⟨q1, q2, q3⟩ | ⟨q1, e, k, cs, y, q2, q3, q4⟩
  ·rw [q1, q2]
   exact ⟨D, p, c, h.grow hb hF hF2, .tup _ _ us.toArray (by simpa using k1) fun j hj => by rw [getD_toArray]; exact (q3 j hj).of_no, iff0⟩
  ·rw [q1, q2]
   obtain ⟨p', c', h1, h2⟩ := h.newOwn hb hF hF2 (hr nx (Nat.le_refl _) (by omega)) q3
   exact ⟨_, p', c', h1, .tup _ _ us.toArray (by simpa using k1) fun j hj => by rw [getD_toArray]; exact q4 _ p' c' h2 j hj, iff1⟩
 | _ => exact plain rfl hR id hu
theorem evL_length (sl : Sl) : ∀ l, (evL sl l).length = l.length
 | [] => rfl
 | x :: l => by simp [evL, evL_length sl l]
theorem evL_at (sl : Sl) : ∀ (l : List Operand) (j : Nat) (h : j < l.length), (evL sl l)[j]'(by rw [evL_length]; exact h) = ev sl l[j]
 | [], j, h => by simp at h
 | x :: l, 0, h => rfl
 | x :: l, j + 1, h => evL_at sl l j (Nat.lt_of_succ_lt_succ h)
end
section
variable {P : Program} {o : Oper} {sl : Sl} {h : Hp} {nx : Nat} {k : Kt}
theorem ok_callV {cl : Call} {f : Operand} (ho : o.op = .call cl) (hc : cl.callee = .value f) (hk : opCallV (Sound P) sl h nx f cl.args.toList k) : Is P o sl h nx k := by
 unfold opCallV at hk
 split at hk
 ·rename_i fid cap hf
  split at hk
  ·rename_i vs fr hp
   rw [forceCs_eq] at hk
   obtain ⟨r, hs, hk⟩ := hk
   generalize hu : unpack nx r = q at hk
   obtain ⟨v, d, n⟩ := q
   refine ⟨v, d ++ freezes h fr, n, ?_, hk⟩
   intro w0 F0 m D p c F slots heap a w next Q hrel hev hh hfresh hnext
   obtain ⟨F1, g1, g2, g3, g4⟩ := hrel.freezes_ fr (viewF_of hh)
   have hargs := packVs_ok (us := (cl.args.map a.eval).toList) hp (by rw [evL_length]; simp) (fun j hj => by
     have hj' : j < cl.args.toList.length := by rw [evL_length] at hj; exact hj
     have hj2 : j < cl.args.size := by simpa using hj'
     rw [evL_at sl _ j hj']
     have : (cl.args.map a.eval).toList.getD j undef = a.eval cl.args.toList[j] := by simp [List.getD, hj2]
     rw [this]
     exact (hev _).mono ⟨fun i hi => ⟨hi, rfl, rfl⟩, g2, fun _ _ _ => rfl⟩)
    (fun r b hb => (hrel.live r b (hh r b hb)).2.mono (hrel.live r b (hh r b hb)).1 ⟨fun i hi => ⟨hi, rfl, rfl⟩, g2, fun _ _ _ => rfl⟩ fun _ _ => rfl) g4
   obtain ⟨us, hfv, hus, hcap⟩ := (hf ▸ hev f : Rep w p c F D _ _).clo_inv
   have hrun : (execOp a.eval o).run P w = .ok (.enter fid (cl.args.map a.eval ++ us)) w := by
    have := hs.1 (cl.args.map a.eval ++ us) w
    simp [execOp, ho, resolve, hc, hfv, Deferred.ofValue, invoke, this]
   unfold Oper.wp
   rw [hrun]
   have hal : (cl.args.map a.eval).size = vs.length := by rw [hargs.1, evL_length]; simp
   refine (hs.2 w F1 (cl.args.map a.eval ++ us) (by rw [Array.size_append, List.length_append, hal, hus]) (fun j hj => ?_) (fun g j hj => (g1.fr g j hj).1)).mono ?_
   ·by_cases h1 : j < vs.length
    ·have h2 := hargs.2 j h1
     have e : (cl.args.map a.eval).toList.getD j undef = (cl.args.map a.eval ++ us).getD j undef := by
      simp only [List.getD, Array.getD_eq_getD_getElem?]
      rw [Array.getElem?_append_left (by omega)]
      simp
     rw [e] at h2
     rw [List.getElem_append_left h1]
     exact h2.of_no
    ·rw [List.length_append] at hj
     have h2 := hcap (j - vs.length) (by omega)
     have e : us.getD (j - vs.length) undef = (cl.args.map a.eval ++ us).getD j undef := by
      simp only [Array.getD_eq_getD_getElem?]
      rw [Array.getElem?_append_right (by omega), hal]
     rw [e] at h2
     rw [List.getElem_append_right (by omega)]
     have h3 : Rep w p c F1 noD _ _ := h2.mono (D' := noD) (p' := p) (c' := c) ⟨fun i hi => hi.elim, g2, fun _ _ _ => rfl⟩
     exact h3.of_no
   ·rintro e w' ⟨x, F', rfl, hb, hF, hF2, hR⟩
    obtain ⟨D', p', c', h1, h2, h3⟩ := unpack_ok g1 hb hF hF2 hu hfresh hR
    rw [← List.append_assoc] at h1
    exact hnext x w' D' p' c' F' h1 h2 h3
  ·exact hk.elim
 ·rename_i fid fst cap hf
  split at hk
  case h_2 => exact hk.elim
  rename_i hq1 hq2
  obtain rfl : fst = #[] := by simpa using hq1
  obtain rfl : cap = #[] := by simpa using hq2
  split at hk
  ·rename_i vs fr hp
   rw [forceCs_eq] at hk
   obtain ⟨r, hs, hk⟩ := hk
   generalize hu : unpack nx r = q at hk
   obtain ⟨v, d, n⟩ := q
   refine ⟨v, d ++ freezes h fr, n, ?_, hk⟩
   intro w0 F0 m D p c F slots heap a w next Q hrel hev hh hfresh hnext
   obtain ⟨F1, g1, g2, g3, g4⟩ := hrel.freezes_ fr (viewF_of hh)
   have hargs := packVs_ok (us := (cl.args.map a.eval).toList) hp (by rw [evL_length]; simp) (fun j hj => by
     have hj' : j < cl.args.toList.length := by rw [evL_length] at hj; exact hj
     have hj2 : j < cl.args.size := by simpa using hj'
     rw [evL_at sl _ j hj']
     have : (cl.args.map a.eval).toList.getD j undef = a.eval cl.args.toList[j] := by simp [List.getD, hj2]
     rw [this]
     exact (hev _).mono ⟨fun i hi => ⟨hi, rfl, rfl⟩, g2, fun _ _ _ => rfl⟩)
    (fun r b hb => (hrel.live r b (hh r b hb)).2.mono (hrel.live r b (hh r b hb)).1 ⟨fun i hi => ⟨hi, rfl, rfl⟩, g2, fun _ _ _ => rfl⟩ fun _ _ => rfl) g4
   have hfv := (hf ▸ hev f : Rep w p c F D _ _).ex_inv
   have hrun : (execOp a.eval o).run P w = .ok (.enter fid (cl.args.map a.eval)) w := by
    have := hs.1 (cl.args.map a.eval) w
    simp [execOp, ho, resolve, hc, hfv, Deferred.ofValue, invoke, this]
   unfold Oper.wp
   rw [hrun]
   refine (hs.2 w F1 (cl.args.map a.eval) (by rw [hargs.1, evL_length]; simp) (fun j hj => ?_) (fun g j hj => (g1.fr g j hj).1)).mono ?_
   ·have := hargs.2 j hj
    have e : (cl.args.map a.eval).toList.getD j undef = (cl.args.map a.eval).getD j undef := by simp [List.getD]
    rw [e] at this
    exact this.of_no
   ·rintro e w' ⟨x, F', rfl, hb, hF, hF2, hR⟩
    obtain ⟨D', p', c', h1, h2, h3⟩ := unpack_ok g1 hb hF hF2 hu hfresh hR
    rw [← List.append_assoc] at h1
    exact hnext x w' D' p' c' F' h1 h2 h3
  ·exact hk.elim
 ·exact hk.elim
theorem ok_clo {fn : Fn} {fst cap : Array Operand} (ho : o.op = .makeFunc fn fst cap) (hk : opClo sl h fn fst.toList cap.toList k) : Is P o sl h nx k := by
 unfold opClo at hk
 split at hk
 case h_3 => exact hk.elim
 case h_1 =>
  rename_i f x hq
  split at hk
  case h_2 => exact hk.elim
  rename_i r hx hq2
  refine ⟨.bm f r, [], 0, ?_, hk⟩
  intro w0 F0 m D p c F slots heap a w next Q hrel hev hh hfresh hnext
  obtain rfl : cap = #[] := by simpa using hq2
  obtain ⟨g, hd, hp, he⟩ := (hx ▸ hev x : Rep w p c F D _ _).ptr_inv
  have hfst : fst = #[x] := by
   apply Array.ext'
   rw [hq]
  refine wp_value (x := .func (.func f) #[.pointer (some ⟨g, 0, none⟩)] #[]) (by simp [execOp, ho, hfst, he, Instr.makeFunc]) (hnext _ w D p c F hrel (.bm _ f r g hd hp) fun i => ⟨.inl, fun h => by rcases h with h | h; exact h; omega⟩)
 rename_i f hq
 obtain rfl : fst = #[] := by simpa using hq
 split at hk
 case h_2 => exact hk.elim
 rename_i vs fr hp
 rw [forceCs_eq] at hk
 refine ⟨.clo f vs, freezes h fr, 0, ?_, hk⟩
 intro w0 F0 m D p c F slots heap a w next Q hrel hev hh hfresh hnext
 obtain ⟨F1, g1, g2, g3, g4⟩ := hrel.freezes_ fr (viewF_of hh)
 have hargs := packVs_ok (us := (cap.map a.eval).toList) hp (by rw [evL_length]; simp) (fun j hj => by
   have hj' : j < cap.toList.length := by rw [evL_length] at hj; exact hj
   have hj2 : j < cap.size := by simpa using hj'
   rw [evL_at sl _ j hj']
   have : (cap.map a.eval).toList.getD j undef = a.eval cap.toList[j] := by simp [List.getD, hj2]
   rw [this]
   exact (hev _).mono ⟨fun i hi => ⟨hi, rfl, rfl⟩, g2, fun _ _ _ => rfl⟩)
  (fun r b hb => (hrel.live r b (hh r b hb)).2.mono (hrel.live r b (hh r b hb)).1 ⟨fun i hi => ⟨hi, rfl, rfl⟩, g2, fun _ _ _ => rfl⟩ fun _ _ => rfl) g4
 refine wp_value (x := .func (.func f) #[] (cap.map a.eval)) (by simp [execOp, ho, Instr.makeFunc]) (hnext _ w D p c F1 g1 (.clo _ f vs _ (by rw [hargs.1, evL_length]; simp) fun j hj => ?_) fun i => ⟨.inl, fun h => by rcases h with h | h; exact h; omega⟩)
 have := hargs.2 j hj
 have e : (cap.map a.eval).toList.getD j undef = (cap.map a.eval).getD j undef := by simp [List.getD]
 rw [e] at this
 exact this
theorem okNew {v : AV} {b : ABlk} (hv : v = .ptr nx 0 ∨ ∃ n, v = .sl nx n) (hob : isOb b = none) (hr : ∀ (w : World) (p : Nat → Option Nat) (c : Nat → Nat) (F : Nat → Nat → Prop) (D : Nat → Prop) (a : Act),
  (∀ x, Rep w p c F D (ev sl x) (a.eval x)) → (∀ r b, blkOf h r = some b → D r ∧ BlkOk P w D p c F r b) → ∃ (w' : World) (us : Array Value) (t : TypeId) (fr : Nat × Nat) (k : Nat),
   (execOp a.eval o).run P w = .ok (.value (match v with | .sl _ n => .slice (some ⟨w.heap.size, 0, none⟩) n k | _ => .pointer (some ⟨w.heap.size, 0, none⟩))) w' ∧ Below w.heap.size w w' ∧ w'.heap[w.heap.size]? = some (.cells us t fr) ∧
   us.size ≤ fr.1 + (if fr.1 = fr.2 then us.size else 0) ∧ b.cells.length ≤ us.size ∧ (∀ j (h : j < b.cells.length), Rep w p c F (if b.pu then noD else D) b.cells[j] (us.getD j undef)) ∧
   (∀ e, b.el = some e → t = e ∧ us.size = k * sizeT P e ∧ k ≤ 9223372036854775807) ∧ (∀ n, v = .sl nx n → n ≤ k)) : OpOk P o sl h nx v [(nx, some b)] 1 := by
 intro w0 F0 m D p c F slots heap a w next Q hrel hev hh hfresh hnext
 obtain ⟨w', us, t, fr, k, hrun, hb, hg, hfr, hl, hcs, hel, hn⟩ := hr w p c F D a hev fun r b hb => hrel.live r b (hh r b hb)
 have hnd := hfresh nx (Nat.le_refl _) (by omega)
 have hlt : w.heap.size < w'.heap.size := by
  apply Classical.byContradiction
  intro hn
  rw [Array.getElem?_eq_none (by omega)] at hg
  cases hg
 have hF3 : ∀ j, ¬ F w.heap.size j := fun j hj => by have := (hrel.fr _ _ hj).1; omega
 have ext := hrel.ext_below hb
 have hne : ∀ i, D i → i ≠ nx := fun i hi e => hnd (e ▸ hi)
 have ext2 : Ext w D p c F w' (addD D nx) (setAt p nx (some w.heap.size)) (setAt c nx k) F := ⟨fun i hi => ⟨.inl hi, setAt_ne p _ (hne i hi), setAt_ne c _ (hne i hi)⟩, fun _ _ h => h, ext.cell⟩
 have hB : BlkOk P w' (addD D nx) (setAt p nx (some w.heap.size)) (setAt c nx k) F nx b := by
  unfold BlkOk; rw [setAt_same]
  refine ⟨us, t, fr, hg, hfr, hl, fun j hj => ?_, fun e he => by rw [setAt_same]; exact hel e he⟩
  have := hcs j hj
  cases hpu : b.pu with
  | true => rw [hpu] at this; exact this.mono ext2.no
  | false => rw [hpu] at this; exact this.mono ext2
 have hnew := hrel.new hb hnd (Nat.le_refl _) hlt (fun _ _ h => h) (fun g j hj => .inl hj) (fun j hj => absurd hj (hF3 j)) hob hB
 refine wp_value hrun (hnext _ w' _ _ _ F hnew ?_ fun i => ⟨fun h => by rcases h with h | h; exact .inl h; exact .inr ⟨by omega, by omega⟩, fun h => by rcases h with h | h; exact .inl h; exact .inr (by omega)⟩)
 rcases hv with rfl | ⟨n, rfl⟩
 ·exact .ptr _ nx 0 _ (.inr rfl) (setAt_same _ _ _)
 ·have := Rep.sl (w := w') (p := setAt p nx (some w.heap.size)) (c := setAt c nx k) (F := F) (addD D nx) nx n (.inr rfl) (by rw [setAt_same]; exact hn n rfl)
  rw [setAt_same, setAt_same] at this
  exact this
theorem exCells_no (z : Value) (K : Ob) : (AV.ex z).cells ≠ [.ob K] := by
 cases z with
 | agg cs =>
  intro h
  have h : cs.toList.map AV.ex = [.ob K] := h
  cases hl : cs.toList with
  | nil => rw [hl] at h; cases h
  | cons x l => rw [hl] at h; injection h with h1; cases h1
 | _ => intro h; injection h with h1; cases h1
theorem below_alloc (w : World) (o : Obj) : Below w.heap.size w (w.alloc o) := (Below.refl _ _).alloc (Nat.le_refl _) o
theorem ok_alloc {t : TypeId} (ho : o.op = .alloc t) (hk : opAlloc P nx t k) : Is P o sl h nx k := by
 unfold opAlloc at hk
 split at hk
 ·rename_i z hz
  rw [forceCs_eq] at hk
  refine ⟨_, _, _, okNew (.inl rfl) (isOb_no (exCells_no z)) fun w p c F D a hev hl => ⟨w.alloc (.cells z.cells t), z.cells, t, (0, 0), 0, ?_, below_alloc w _, heap_alloc_new w _, by simp, ?_, fun j hj => ?_, (fun e he => by cases he), (fun n hn => by cases hn)⟩, hk⟩
  ·have hi : ∃ i, P.info? t = some i ∧ i.zero = some z := by
    unfold zeroT at hz
    cases hi : P.info? t with
    | none => rw [hi] at hz; cases hz
    | some i => rw [hi] at hz; exact ⟨i, rfl, hz⟩
   obtain ⟨i, hi, hz⟩ := hi
   simp [execOp, ho, Instr.alloc, zeroValue, typeInfo, hi, hz, newVar, newRow]
  ·cases z <;> simp [AV.cells, Value.cells]
  ·have := (Rep.ex (w := w) (p := p) (c := c) (F := F) noD z).cells (by simp) (fun K h => by cases h)
   exact this.2 j hj
 ·exact hk.elim
theorem known_ok {v : AV} {k : Prop} (h : known v k) : isUnk v = false ∧ k := by
 unfold known at h
 cases hv : isUnk v with
 | true => rw [hv] at h; exact h.elim
 | false => rw [hv] at h; exact ⟨rfl, h⟩
theorem Rep.pureC_ {w : World} {p : Nat → Option Nat} {c : Nat → Nat} {F : Nat → Nat → Prop} {D : Nat → Prop} {v : AV} {x : Value} (h : Rep w p c F D v x) (hp : pureC v = true) : Rep w p c F noD v x := by
 cases h with
 | ex D v => exact .ex _ _
 | unk D v => exact .unk _ _
 | vnil => exact .vnil _
 | vs D n cs g o k u h1 h2 h3 => exact .vs _ n cs g o k u h1 h2 h3
 | fnil => exact .fnil _
 | vf D n cs g o u h2 h3 => exact .vf _ n cs g o u h2 h3
 | clo D f cs us h2 h3 => exact .clo _ f cs us h2 h3
 | pt0 D cs => exact .pt0 _ cs
 | pt1 D cs g o u h2 h3 => exact .pt1 _ cs g o u h2 h3
 | vp D cs off g o u h2 h3 => exact .vp _ cs off g o u h2 h3
 | vq D cs off g o u h2 h3 => exact .vq _ cs off g o u h2 h3
 | _ => cases hp
theorem Rep.cellsP {w : World} {p : Nat → Option Nat} {c : Nat → Nat} {F : Nat → Nat → Prop} {D : Nat → Prop} {v : AV} {x : Value} (h : Rep w p c F D v x) (hu : isUnk v = false) :
  x.cells.size = v.cells.length ∧ ∀ j (hj : j < v.cells.length), Rep w p c F (if pureV v then noD else D) v.cells[j] (x.cells.getD j undef) := by
 obtain ⟨h1, h2⟩ := h.cells (fun e => by rw [e] at hu; cases hu) (fun K e => by rw [e] at hu; cases hu)
 refine ⟨h1, fun j hj => ?_⟩
 cases hp : pureV v with
 | false => exact h2 j hj
 | true =>
  have h3 := h2 j hj
  refine h3.pureC_ ?_
  cases v with
  | agg cs =>
   simp only [pureV, List.all_eq_true] at hp
   exact hp _ (List.getElem_mem _)
  | ex v =>
   cases v with
   | agg cs => simp [AV.cells, pureC]
   | _ => simp [AV.cells, pureC]
  | unk => cases hu
  | ob K => cases hu
  | vs n cs => simp [AV.cells, pureC]
  | vf n cs => simp [AV.cells, pureC]
  | clo n cs => simp [AV.cells, pureC]
  | pt n cs => simp [AV.cells, pureC]
  | vp n cs => simp [AV.cells, pureC]
  | vq n cs => simp [AV.cells, pureC]
  | _ => cases hp
theorem pureV_no {v : AV} (hu : isUnk v = false) (hp : pureV v = true) (K : Ob) : v.cells ≠ [.ob K] := by
 intro h
 cases v with
 | agg cs =>
  have h : cs = [.ob K] := h
  subst h
  cases hp
 | ex v => exact exCells_no v K h
 | ob K => cases hu
 | _ => injection h with h1; cases h1
theorem ok_box {t : TypeId} {x : Operand} (ho : o.op = .box t x) (hk : opBox sl nx x k) : Is P o sl h nx k := by
 unfold opBox at hk
 obtain ⟨hu, hk⟩ := known_ok hk
 rw [forceV_eq, forceCs_eq, forceB_eq] at hk
 refine ⟨_, _, _, okNew (.inl rfl) (by
  cases hp : pureV (ev sl x) with
  | false => exact isOb_pu rfl
  | true => exact isOb_no (pureV_no hu hp)) fun w p c F D a hev hl => ⟨w.alloc (.cells (a.eval x).cells t), (a.eval x).cells, t, (0, 0), 0, ?_, below_alloc w _, heap_alloc_new w _, by simp, ?_, fun j hj => ?_, (fun e he => by cases he), (fun n hn => by cases hn)⟩, hk⟩
 ·simp [execOp, ho, Instr.box, newVar, newRow]
 ·exact Nat.le_of_eq ((hev x).cellsP hu).1.symm
 ·exact ((hev x).cellsP hu).2 j hj
end
end
section
def setV (us : Array Value) (o : Nat) : List Value → Array Value
 | [] => us
 | v :: vs => setV (us.setIfInBounds o v) (o + 1) vs
theorem setV_size : ∀ (vs : List Value) (us : Array Value) (o : Nat), (setV us o vs).size = us.size
 | [], _, _ => rfl
 | v :: vs, us, o => by rw [setV, setV_size vs]; simp
theorem setL_length : ∀ (vs : List AV) (cs : List AV) (o : Nat), (setL cs o vs).length = cs.length
 | [], _, _ => rfl
 | v :: vs, cs, o => by rw [setL, setL_length vs]; simp
theorem setV_getD : ∀ (vs : List Value) (us : Array Value) (o j : Nat), j < us.size → (setV us o vs).getD j undef = if o ≤ j ∧ j < o + vs.length then vs.getD (j - o) undef else us.getD j undef
 | [], us, o, j, hj => by
  have : ¬ (o ≤ j ∧ j < o + ([] : List Value).length) := by
   intro hh; have := hh.1; have := hh.2; simp at this; omega
  rw [if_neg this]; rfl
 | v :: vs, us, o, j, hj => by
  rw [setV, setV_getD vs _ (o + 1) j (by simpa using hj)]
  by_cases h1 : o + 1 ≤ j ∧ j < o + 1 + vs.length
  ·rw [if_pos h1, if_pos (by simp; omega)]
   have : j - o = (j - (o + 1)) + 1 := by omega
   rw [this]; rfl
  ·rw [if_neg h1]
   by_cases h2 : j = o
   ·subst h2
    rw [if_pos (by simp)]
    simp [hj]
   ·rw [if_neg (by simp; omega)]
    simp [Array.getElem?_setIfInBounds, Ne.symm h2]
section
variable {w : World} {D : Nat → Prop} {p : Nat → Option Nat} {c : Nat → Nat} {F F0 : Nat → Nat → Prop} {P : Program} {w0 : Ori} {w' : World} {m : Fr} {slots : Sl} {heap : Hp} {a : Act}
theorem setRep : ∀ (vs : List AV) (xs : List Value) (cs : List AV) (us : Array Value) (o : Nat), xs.length = vs.length → cs.length ≤ us.size → o + vs.length ≤ cs.length →
  (∀ j (h : j < vs.length), Rep w p c F D vs[j] (xs.getD j undef)) → (∀ j (h : j < cs.length), Rep w p c F D cs[j] (us.getD j undef)) →
  ∀ j (h : j < (setL cs o vs).length), Rep w p c F D (setL cs o vs)[j] ((setV us o xs).getD j undef)
 | [], [], cs, us, o, h1, h2, h3, h4, h5 => h5
 | [], _ :: _, cs, us, o, h1, _, _, _, _ => by simp at h1
 | v :: vs, [], cs, us, o, h1, _, _, _, _ => by simp at h1
 | v :: vs, x :: xs, cs, us, o, h1, h2, h3, h4, h5 => by
  simp only [setL, setV]
  have h3' : o + 1 + vs.length ≤ cs.length := by simp at h3; omega
  refine setRep vs xs (cs.set o v) (us.setIfInBounds o x) (o + 1) (by simpa using h1) (by simpa using h2) (by simpa using h3') (fun j h => h4 (j + 1) (Nat.succ_lt_succ h)) (fun j h => ?_)
  have hj : j < cs.length := by simpa using h
  by_cases e : o = j
  ·subst e
   have e1 : (cs.set o v)[o] = v := by simp
   have e2 : (us.setIfInBounds o x).getD o undef = x := by
    have : o < us.size := by omega
    simp [this]
   rw [e1, e2]; exact h4 0 (Nat.zero_lt_succ _)
  ·have e1 : (cs.set o v)[j] = cs[j] := by simp [List.getElem_set, e]
   have e2 : (us.setIfInBounds o x).getD j undef = us.getD j undef := by simp [Array.getElem?_setIfInBounds, e]
   rw [e1, e2]; exact h5 j hj
theorem heap_setCells {g : Nat} {t : TypeId} {fr : Nat × Nat} : ∀ (vs : List Value) (us : Array Value) (o : Nat) (w : World), w.heap[g]? = some (.cells us t fr) → (w.setCells g o vs).heap[g]? = some (.cells (setV us o vs) t fr)
 | [], us, o, w, h => h
 | v :: vs, us, o, w, h => by
  rw [World.setCells, setV]
  refine heap_setCells vs _ (o + 1) _ ?_
  simp only [World.setCell, Array.getElem?_modify, h]
  simp
theorem heap_setCells_ne {g k : Nat} (hk : k ≠ g) : ∀ (vs : List Value) (o : Nat) (w : World), (w.setCells g o vs).heap[k]? = w.heap[k]?
 | [], o, w => rfl
 | v :: vs, o, w => by rw [World.setCells, heap_setCells_ne hk vs]; exact Below.heap_setCell w _ v k hk
theorem setCells_rest {g : Nat} : ∀ (vs : List Value) (o : Nat) (w : World), (w.setCells g o vs).os = w.os ∧ (w.setCells g o vs).tape = w.tape ∧ (w.setCells g o vs).output = w.output ∧ (w.setCells g o vs).heap.size = w.heap.size
 | [], o, w => ⟨rfl, rfl, rfl, rfl⟩
 | v :: vs, o, w => by
  obtain ⟨h1, h2, h3, h4⟩ := setCells_rest (g := g) vs (o + 1) (w.setCell ⟨g, o, none⟩ v)
  rw [World.setCells]
  exact ⟨h1, h2, h3, by rw [h4]; simp [World.setCell]⟩
theorem Rel.below_turn (h : Rel P w0 F0 m D p c F slots heap a w) {g : Nat} (hg : w0.mine g) (vs : List Value) (o : Nat) : Held w0 (w.setCells g o vs) := by
 obtain ⟨h1, h2, h3, h4⟩ := setCells_rest (g := g) vs o w
 exact ⟨h1.trans h.below.os, h2.trans h.below.tape, h3.trans h.below.output, by rw [h4]; exact h.below.size, fun k hk => (heap_setCells_ne (show k ≠ g from fun e => hk (by rw [e]; exact hg)) vs o w).trans (h.below.block k hk)⟩
theorem Rel.turn (h : Rel P w0 F0 m D p c F slots heap a w) {r r' g : Nat} {b b' : ABlk} (hr : look heap r = some (some b)) (hp : p r = some g) (vs : List Value) (o : Nat)
  (hr' : r' = r ∨ ¬ D r') (k : Nat) (hF : ∀ j, F g j → j < o) (hfz : b.fz = true → b'.fz = true) (hle : b.cells.length ≤ b'.cells.length) (hob : isOb b' = none)
  (hB : BlkOk P (w.setCells g o vs) (addD D r') (setAt p r' (some g)) (setAt c r' k) F r' b') (hk : r' = r → k = c r) :
  Rel P w0 F0 m (addD D r') (setAt p r' (some g)) (setAt c r' k) F slots ((r', some b') :: (if r' = r then heap else (r, none) :: heap)) a (w.setCells g o vs) := by
 have hlt := (h.live r b hr).2.lt hp
 have hpp : ∀ i, D i → setAt p r' (some g) i = p i := by
  intro i hi
  by_cases e : i = r'
  ·rcases hr' with e2 | e2
   ·rw [e, setAt_same, e2, hp]
   ·exact absurd (e ▸ hi) e2
  ·exact setAt_ne p _ e
 have hcc : ∀ i, D i → setAt c r' k i = c i := by
  intro i hi
  by_cases e : i = r'
  ·rcases hr' with e2 | e2
   ·rw [e, setAt_same, e2, hk e2]
   ·exact absurd (e ▸ hi) e2
  ·exact setAt_ne c _ e
 have ext : Ext w D p c F (w.setCells g o vs) (addD D r') (setAt p r' (some g)) (setAt c r' k) F :=
  ⟨fun i hi => ⟨.inl hi, hpp i hi, hcc i hi⟩, fun _ _ h => h, fun g' j hj => by
   by_cases e : g' = g
   ·subst e
    exact World.cell?_setCells_out g' vs o w ⟨g', j, none⟩ fun _ _ => .inl (hF j hj)
   ·exact World.cell?_of_block (w := w) (a := ⟨g', j, none⟩) (heap_setCells_ne e vs o w)⟩
 have hold : ∀ i b1, look ((r', some b') :: (if r' = r then heap else (r, none) :: heap)) i = some (some b1) → i ≠ r' → look heap i = some (some b1) ∧ i ≠ r := by
  intro i b1 hi hne
  rw [look_cons, if_neg (Ne.symm hne)] at hi
  split at hi
  ·rename_i e; exact ⟨hi, by rw [← e]; exact hne⟩
  ·rw [look_cons] at hi
   by_cases e : r = i
   ·rw [if_pos e] at hi; injection hi with hi; cases hi
   ·rw [if_neg e] at hi; exact ⟨hi, Ne.symm e⟩
 have hne_g : ∀ i b1 g', look heap i = some (some b1) → i ≠ r → p i = some g' → g' ≠ g := by
  intro i b1 g' hi hne hpi e
  subst e
  exact hne (h.inj i r b1 b g' hi hr hpi hp)
 have hinj : ∀ i i' b1 b2 g', look ((r', some b') :: (if r' = r then heap else (r, none) :: heap)) i = some (some b1) → look ((r', some b') :: (if r' = r then heap else (r, none) :: heap)) i' = some (some b2) → setAt p r' (some g) i = some g' → setAt p r' (some g) i' = some g' → i = i' := by
  intro i i' b1 b2 g' h1 h2 p1 p2
  by_cases e : i = r'
  ·by_cases e' : i' = r'
   ·rw [e, e']
   ·subst e
    obtain ⟨h0, hn⟩ := hold i' b2 h2 e'
    rw [setAt_same] at p1; injection p1 with p1
    rw [setAt_ne p _ e'] at p2
    exact absurd p1.symm (hne_g i' b2 g' h0 hn p2)
  ·by_cases e' : i' = r'
   ·subst e'
    obtain ⟨h0, hn⟩ := hold i b1 h1 e
    rw [setAt_same] at p2; injection p2 with p2
    rw [setAt_ne p _ e] at p1
    exact absurd p2.symm (hne_g i b1 g' h0 hn p1)
   ·obtain ⟨h0, hn⟩ := hold i b1 h1 e
    obtain ⟨h0', hn'⟩ := hold i' b2 h2 e'
    rw [setAt_ne p _ e] at p1
    rw [setAt_ne p _ e'] at p2
    exact h.inj i i' b1 b2 g' h0 h0' p1 p2
 refine h.upd ext (fun i b1 hi => ?_) hinj (fun i b1 g' hi hpi => ?_) (fun g' j hj => ⟨by rw [(setCells_rest vs o w).2.2.2]; exact (h.fr g' j hj).1, (h.fr g' j hj).2⟩) (fun i b1 g' j hi hpi hj => ?_) (h.below_turn (h.own r b g hr hp) vs o)
  (h.ob.step (fun i b1 K hi hK => ?_) (fun i b1 g' hi hpi _ => ?_) (fun i b1 K g' hi hK hpi => ?_) (fun _ _ hj => .inl hj) (fun _ hx => hx) (Nat.le_of_eq (setCells_rest vs o w).2.2.2.symm) hinj)
 ·by_cases e : i = r'
  ·subst e
   rw [look_cons, if_pos rfl] at hi; injection hi with hi; injection hi with hi; subst hi
   exact ⟨.inr rfl, hB⟩
  ·obtain ⟨h0, hn⟩ := hold i b1 hi e
   have hl := h.live i b1 h0
   exact ⟨.inl hl.1, hl.2.mono hl.1 ext fun g' hg' => heap_setCells_ne (hne_g i b1 g' h0 hn hg') vs o w⟩
 ·by_cases e : i = r'
  ·subst e
   rw [setAt_same] at hpi; injection hpi with hpi; subst hpi
   exact h.own r b g hr hp
  ·obtain ⟨h0, hn⟩ := hold i b1 hi e
   rw [setAt_ne p _ e] at hpi
   exact h.own i b1 g' h0 hpi
 ·by_cases e : i = r'
  ·subst e
   rw [look_cons, if_pos rfl] at hi; injection hi with hi; injection hi with hi; subst hi
   rw [setAt_same] at hpi; injection hpi with hpi; subst hpi
   obtain ⟨q1, q2⟩ := h.fz r b g j hr hp hj
   exact ⟨hfz q1, by omega⟩
  ·obtain ⟨h0, hn⟩ := hold i b1 hi e
   rw [setAt_ne p _ e] at hpi
   exact h.fz i b1 g' j h0 hpi hj
 ·by_cases e : i = r'
  ·subst e
   rw [look_cons, if_pos rfl] at hi; injection hi with hi; injection hi with hi; subst hi
   rw [hob] at hK; cases hK
  ·exact ⟨(hold i b1 hi e).1, setAt_ne p _ e⟩
 ·by_cases e : i = r'
  ·subst e
   rw [setAt_same] at hpi; injection hpi with hpi; subst hpi
   exact .inr ⟨r, b, hr, hp⟩
  ·rw [setAt_ne p _ e] at hpi
   exact .inr ⟨i, b1, (hold i b1 hi e).1, hpi⟩
 ·by_cases e : i = r'
  ·subst e
   rw [look_cons, if_pos rfl] at hi; injection hi with hi; injection hi with hi; subst hi
   rw [hob] at hK; cases hK
  ·obtain ⟨h0, hn⟩ := hold i b1 hi e
   rw [setAt_ne p _ e] at hpi
   refine ⟨heap_setCells_ne (hne_g i b1 g' h0 hn hpi) vs o w, fun x hx => heap_setCells_ne (fun ex => ?_) vs o w⟩
   exact (h.ob i b1 K g' h0 hK hpi).2 x hx |>.2.2.2 r b g hr hp (Ne.symm hn) (.inl ex)
theorem one1_ok {v : AV} {x : Value} (h : Rep w p c F D v x) (h1 : one1 v = true) : x.oneCell' = true := by
 cases h with
 | ex D => cases x <;> first | rfl | cases h1
 | _ => first | rfl | cases h1
end
theorem setL_no {cs vs : List AV} {off : Nat} (h1 : vs.all one1 = true) (h2 : off + vs.length ≤ cs.length) (h3 : 0 < vs.length) (K : Ob) : setL cs off vs ≠ [.ob K] := by
 intro h
 have hl : cs.length = 1 := by have := congrArg List.length h; rw [setL_length] at this; exact this
 match vs, h3 with
 | [v], _ =>
  match cs, hl with
  | [c], _ =>
   have h2 : off + 1 ≤ 1 := h2
   obtain rfl : off = 0 := by omega
   have h : [v] = [.ob K] := h
   injection h with h; subst h
   simp [one1] at h1
 | v :: u :: l, _ =>
  have : off + (l.length + 1 + 1) ≤ cs.length := h2
  omega
theorem lt_of_blt {a b : Nat} (h : Nat.blt a b = true) : a < b := Nat.le_of_ble_eq_true h
section
variable {P : Program} {o : Oper} {sl : Sl} {h : Hp} {nx : Nat} {k : Kt}
theorem setAt_id {α : Type} (f : Nat → α) {r : Nat} {x : α} (h : f r = x) : setAt f r x = f := by
 funext i
 unfold setAt
 split
 ·rename_i e; rw [e, h]
 ·rfl
theorem ok_store {t : TypeId} {x y : Operand} (ho : o.op = .store t x y) (hk : opStore P sl h t x y k) : Is P o sl h nx k := by
 unfold opStore at hk
 split at hk
 case h_2 => exact hk.elim
 rename_i r off hx
 split at hk
 case h_2 => exact hk.elim
 rename_i cs el pu hb
 obtain ⟨hu, hk⟩ := known_ok hk
 rw [forceV_eq] at hk
 split at hk
 case h_2 => exact hk.elim
 rename_i hone hsz hpos
 obtain ⟨hle, hk⟩ := hk
 rw [forceB_eq] at hk
 have hk : k (.ex undef) [(r, some ⟨setL cs off (ev sl y).cells, el, false, pu && pureV (ev sl y)⟩)] 0 := by
  cases el with
  | none => rwa [forceCs_eq] at hk
  | some e => simpa only [forceCs_eq] using hk
 refine ⟨_, _, _, ?_, hk⟩
 intro w0 F0 m D p c F slots heap a w next Q hrel hev hh hfresh hnext
 obtain ⟨g, hd, hp, he⟩ := (hx ▸ hev x : Rep w p c F D _ _).ptr_inv
 have hlook := hh r _ hb
 obtain ⟨us, tt, fr, k1, k2, k3, k4, k5⟩ := (hrel.live r _ hlook).2.at hp
 obtain ⟨c1, c2⟩ := (hev y).cellsP hu
 have hsz' : (ev sl y).cells.length = sizeT P t := Nat.eq_of_beq_eq_true hsz
 have hone' : ∀ v ∈ (a.eval y).cells.toList, v.oneCell' = true := by
  intro v hv
  obtain ⟨j, hj, rfl⟩ := List.getElem_of_mem hv
  have hj' : j < (ev sl y).cells.length := by rw [← c1]; simpa using hj
  have h1 := c2 j hj'
  have h2 : one1 (ev sl y).cells[j] = true := (List.all_eq_true.1 hone) _ (List.getElem_mem _)
  have h3 := one1_ok h1 h2
  have hj2 : j < (a.eval y).cells.size := by simpa using hj
  have e : (a.eval y).cells.getD j undef = (a.eval y).cells.toList[j] := by simp [hj2]
  rw [e] at h3; exact h3
 simp only at k3
 have hlen : (a.eval y).cells.toList.length = (ev sl y).cells.length := by simpa using c1
 have hst := run_storeCells_cells (P := P) g off (a.eval y).cells.toList 0 w
  (fun j hj => by rw [Nat.add_zero, cell_at k1 (by omega)]; rfl)
  (fun j hj => by rw [Nat.add_zero]; exact frozen_at k1 k2 (by omega)) hone'
 rw [Nat.add_zero] at hst
 have hsize := (size_run (P := P) (w := w) hpos).1
 have hrun : (execOp a.eval o).run P w = .ok .skip (w.setCells g off (a.eval y).cells.toList) := by
  have e1 : (a.eval y).cells.size = sizeT P t := by rw [c1, hsz']
  simp [execOp, ho, Instr.storeAt, Instr.sureAddr, he, storeVar, hsize, e1, hst]
 have hpid := setAt_id p hp
 have hcid := setAt_id c (r := r) rfl
 have hF0 : ∀ j, ¬ F g j := fun j hj => by have := (hrel.fz r _ g j hlook hp hj).1; cases this
 have hDr : addD D r = D := by
  funext i; exact propext ⟨fun h => by rcases h with h | h; exact h; exact h ▸ hd, .inl⟩
 have ext : Ext w D p c F (w.setCells g off (a.eval y).cells.toList) D p c F := ⟨fun i hi => ⟨hi, rfl, rfl⟩, fun _ _ h => h, fun g' j hj => by
  by_cases e : g' = g
  ·subst e; exact absurd hj (hF0 j)
  ·exact World.cell?_of_block (w := w) (a := ⟨g', j, none⟩) (heap_setCells_ne e _ _ w)⟩
 have hturn := hrel.turn (r' := r) (b' := ⟨setL cs off (ev sl y).cells, el, false, pu && pureV (ev sl y)⟩) hlook hp (a.eval y).cells.toList off (.inl rfl) (c r) (fun j hj => absurd hj (hF0 j)) (fun h => by cases h) (by simp [setL_length]) (isOb_no (setL_no hone hle (by rw [hsz']; exact lt_of_blt hpos))) (by
  rw [hpid, hcid, hDr]
  unfold BlkOk; rw [hp]
  refine ⟨setV us off (a.eval y).cells.toList, tt, fr, heap_setCells _ us off w k1, by rw [setV_size]; exact k2, by simp only [setL_length, setV_size]; exact k3, ?_, fun e he => by rw [setV_size]; exact k5 e he⟩
  have base : ∀ (E : Nat → Prop), (∀ j (h : j < (ev sl y).cells.length), Rep w p c F E (ev sl y).cells[j] ((a.eval y).cells.toList.getD j undef)) → (∀ j (h : j < cs.length), Rep w p c F E cs[j] (us.getD j undef)) →
    ∀ j (h : j < (setL cs off (ev sl y).cells).length), Rep w p c F E (setL cs off (ev sl y).cells)[j] ((setV us off (a.eval y).cells.toList).getD j undef) := fun E h1 h2 =>
   setRep _ _ cs us off hlen k3 hle h1 h2
  have e0 : ∀ j, (a.eval y).cells.toList.getD j undef = (a.eval y).cells.getD j undef := fun j => by simp [List.getD]
  intro j hj
  cases hpu : (pu && pureV (ev sl y)) with
  | true =>
   simp only [Bool.and_eq_true] at hpu
   obtain ⟨q1, q2⟩ := hpu
   subst q1
   exact (base noD (fun j hj => by rw [e0]; have := c2 j hj; rw [q2] at this; exact this) (fun j hj => k4 j hj) j hj).mono ext.no
  | false => exact (base D (fun j hj => by rw [e0]; exact (c2 j hj).pu) (fun j hj => (k4 j hj).pu) j hj).mono ext) (fun _ => rfl)
 rw [hpid, hcid, hDr, if_pos rfl] at hturn
 refine wp_skipped hrun (hnext undef _ D p c F hturn (.ex _ _) fun i => ⟨.inl, fun h => by rcases h with h | h; exact h; omega⟩)
end
end
section
section
variable {w : World} {D : Nat → Prop} {p : Nat → Option Nat} {c : Nat → Nat} {F F0 : Nat → Nat → Prop} {P : Program} {w0 : Ori} {w' : World} {m : Fr} {slots : Sl} {heap : Hp} {a : Act}
theorem pu_and {x y : Bool} {v : AV} {u : Value} (h : Rep w p c F (if x then noD else D) v u) : Rep w p c F (if x && y then noD else D) v u := by
 cases x
 ·exact h
 ·cases y
  ·exact h.of_no
  ·exact h
theorem pu_and' {x y : Bool} {v : AV} {u : Value} (h : Rep w p c F (if y then noD else D) v u) : Rep w p c F (if x && y then noD else D) v u := by
 rw [Bool.and_comm]; exact pu_and h
theorem info_of {e : TypeId} (h : Nat.blt 0 (sizeT P e) = true) : ∃ i, P.info? e = some i ∧ i.size = sizeT P e ∧ i.bytes = bytesT P e := by
 have h0 := (size_run (P := P) (w := default) h).2
 cases hi : P.info? e with
 | none => exact absurd (by simp [sizeT, hi]) h0
 | some i => exact ⟨i, rfl, by simp [sizeT, hi], by simp [bytesT, hi]⟩
theorem readS_ok {h : Hp} {v : AV} {x : Value} {n : Nat} {cs : List AV} {px : Bool} {tx e' : TypeId} {size : Nat} (hs : readS h v = some (n, cs, px)) (hr : Rep w p c F D v x) (hl : ∀ r b, blkOf h r = some b → BlkOk P w D p c F r b)
  (htx : P.underlying tx = some (.slice e')) (hlen : cs.length = n * size) (hone : ∀ v ∈ cs, one1 v = true) :
  ∃ news : List Value, Src P size tx x n news w ∧ news.length = cs.length ∧ ∀ j (h : j < cs.length), Rep w p c F (if px then noD else D) cs[j] (news.getD j undef) := by
 have mk : ∀ (g o k : Nat) (u : Nat → Value), (∀ j, j < cs.length → w.cell? ⟨g, o + j, none⟩ = some (u j)) → (∀ j (h : j < cs.length), Rep w p c F (if px then noD else D) cs[j] (u j)) → x = .slice (some ⟨g, o, none⟩) n k →
   ∃ news : List Value, Src P size tx x n news w ∧ news.length = cs.length ∧ ∀ j (h : j < cs.length), Rep w p c F (if px then noD else D) cs[j] (news.getD j undef) := by
  intro g o k u hc hr hx
  have hat : ∀ j (h : j < cs.length), ((List.range cs.length).map u).getD j undef = u j := by intro j h; simp [List.getD, h]
  refine ⟨(List.range cs.length).map u, ?_, by simp, fun j h => by rw [hat j h]; exact hr j h⟩
  rw [hx]
  refine Src.ofSlice w htx ⟨g, o, none⟩ n k _ (by simp [hlen]) (fun j v hv => ?_) (fun v hv => ?_)
  ·have hj : j < cs.length := by
    have := (List.getElem?_eq_some_iff.1 hv).1; simpa using this
   have e := hat j hj
   rw [List.getD, hv] at e
   rw [Addr.add_lit, hc j hj]; exact congrArg some e.symm
  ·obtain ⟨j, hj, rfl⟩ := List.mem_map.1 hv
   have hj' : j < cs.length := by simpa using hj
   exact one1_ok (hr j hj') (hone _ (List.getElem_mem _))
 have nil : n = 0 → cs = [] → (∃ a, x = .slice a 0 0) → ∃ news : List Value, Src P size tx x n news w ∧ news.length = cs.length ∧ ∀ j (h : j < cs.length), Rep w p c F (if px then noD else D) cs[j] (news.getD j undef) := by
  rintro rfl rfl ⟨a0, rfl⟩
  cases a0 with
  | none => exact ⟨[], Src.ofNil w htx 0, rfl, fun j h => by simp at h⟩
  | some ad => exact ⟨[], Src.ofSlice w htx ad 0 0 [] (by simp) (fun j v hv => by simp at hv) (fun v hv => by cases hv), rfl, fun j h => by simp at h⟩
 unfold readS at hs
 split at hs
 ·simp only [Option.some.injEq, Prod.mk.injEq] at hs
  obtain ⟨rfl, rfl, rfl⟩ := hs
  rcases hr.vs_inv with ⟨h1, h2, h3⟩ | ⟨g, o, k, u, h1, h2, h3⟩
  ·exact nil h1 h2 h3
  ·exact mk g o k u (fun j hj => (h3.1 j hj).2) (fun j hj => h3.2 j hj) h2
 ·simp only [Option.some.injEq, Prod.mk.injEq] at hs
  obtain ⟨rfl, rfl, rfl⟩ := hs
  rcases hr.vf_inv with ⟨h1, h2, h3⟩ | ⟨g, o, u, h2, h3⟩
  ·exact nil h1 h2 h3
  ·exact mk g o _ u (fun j hj => (h3.1 j hj).2) (fun j hj => h3.2 j hj) h2
 ·rename_i r n' 
  split at hs
  ·rename_i cs' el fz pu hb
   simp only [Option.some.injEq, Prod.mk.injEq] at hs
   obtain ⟨rfl, rfl, rfl⟩ := hs
   obtain ⟨hd, hn, hx⟩ := hr.sl_inv
   have hB := hl r _ hb
   cases hp : p r with
   | none =>
    unfold BlkOk at hB
    rw [hp] at hB
    obtain ⟨q1, q2, _⟩ := hB
    simp only at q1
    have : n' = 0 := by omega
    rw [hp, q2, this] at hx
    exact nil this q1 ⟨_, hx⟩
   | some g =>
    obtain ⟨us, t, frz, k1, k2, k3, k4, k5⟩ := hB.at hp
    rw [hp] at hx
    exact mk g 0 (c r) (fun j => us.getD j undef) (fun j hj => by rw [Nat.zero_add]; exact cell_at k1 (by simp only at k3; omega)) k4 hx
  ·cases hs
 ·simp only [Option.some.injEq, Prod.mk.injEq] at hs
  obtain ⟨rfl, rfl, rfl⟩ := hs
  exact nil rfl rfl ⟨_, hr.ex_inv⟩
 ·cases hs
theorem byte_src {tx : TypeId} (htx : P.underlying tx = some .string) (b : ByteArray) : Src P 1 tx (.string b) b.size (byteCells b) w ∧ (byteCells b).length = (bytesA b.data.toList).length ∧
  ∀ j (h : j < (bytesA b.data.toList).length), Rep w p c F noD (bytesA b.data.toList)[j] ((byteCells b).getD j undef) := by
 refine ⟨Src.ofString w htx b, by simp [byteCells, bytesA], fun j hj => ?_⟩
 have hj' : j < b.data.toList.length := by simpa [bytesA] using hj
 have e1 : (bytesA b.data.toList)[j] = byteA b.data.toList[j] := by simp [bytesA]
 have hj2 : j < b.data.size := by simpa using hj'
 have e2 : (byteCells b).getD j undef = .int .u8 (b.data.toList[j].toNat : Int) := by
  have e3 : b.data[j]? = some b.data[j] := Array.getElem?_eq_getElem hj2
  simp [byteCells, List.getD, e3]
 rw [e1, e2]; exact .ex _ _
theorem olds_run {g : Nat} {us : Array Value} {t : TypeId} {fr : Nat × Nat} {size n k : Nat} (hg : w.heap[g]? = some (.cells us t fr)) (h : n * size ≤ us.size) :
  (Builtin.firstCells size n (.slice (some ⟨g, 0, none⟩) n k)).run P w.drew = .ok (us.toList.take (n * size)).toArray w.drew := by
 refine run_firstCells_some w.drew size n ⟨g, 0, none⟩ n k (us.toList.take (n * size)) (by simp; omega) fun j u hu => ?_
 have hj := (List.getElem?_eq_some_iff.1 hu).1
 rw [List.length_take] at hj
 rw [Addr.add_lit, Nat.zero_add]
 have : w.drew.cell? ⟨g, j, none⟩ = w.cell? ⟨g, j, none⟩ := rfl
 rw [this, cell_at hg (by simp at hj; omega)]
 rw [List.getElem?_take_of_lt (by omega)] at hu
 have hj2 : j < us.size := by simp at hj; omega
 simp [hj2] at hu ⊢
 exact hu
end
section
variable {P : Program} {o : Oper} {sl : Sl} {h : Hp} {nx : Nat} {k : Kt}
theorem drew_below {w w' : World} (h : Below w.drew.heap.size w.drew w') : Below w.heap.size w w' := ⟨h.os, h.tape, h.output, h.size, h.block⟩
theorem ok_appendOn {cl : Call} {s x : Operand} {t tx e : TypeId} {mm : Nat} {ds : List AV} {px : Bool} {pre : Prop} (ho : o.op = .call cl) (hc : cl.callee = .builtin .append) (ha : cl.args = #[s, x]) (ht : cl.argTypes = #[t, tx])
  (hu : P.underlying t = some (.slice e))
  (hsrc : pre → ds.length = mm * sizeT P e ∧ ∀ (w : World) (p : Nat → Option Nat) (c : Nat → Nat) (F : Nat → Nat → Prop) (D : Nat → Prop) (a : Act), (∀ x, Rep w p c F D (ev sl x) (a.eval x)) → (∀ r b, blkOf h r = some b → BlkOk P w D p c F r b) →
   ∃ news : List Value, Src P (sizeT P e) tx (a.eval x) mm news w ∧ news.length = ds.length ∧ ∀ j (h : j < ds.length), Rep w p c F (if px then noD else D) ds[j] (news.getD j undef))
  (hk : appendOn P sl h nx e s mm ds px pre k) : Is P o sl h nx k := by
 unfold appendOn at hk
 split at hk
 case h_2 => exact hk.elim
 rename_i z hz
 split at hk
 case h_2 => exact hk.elim
 rename_i hzs hpos hbp
 obtain ⟨i, hi, his, hib⟩ := info_of hpos
 have hz' : i.zero = some z := by unfold zeroT at hz; rw [hi] at hz; exact hz
 have hzs' : z.cells.size = i.size := by rw [his]; exact Nat.eq_of_beq_eq_true hzs
 have hbpos : 0 < i.bytes := by
  have : 1 ≤ bytesT P e := by simpa [Nat.blt, Nat.ble_eq] using hbp
  omega
 have hspos : 0 < sizeT P e := Nat.pos_of_ne_zero (size_run (P := P) (w := default) hpos).2
 have runs : ∀ {a : Act} {w w' : World} {u : Value}, (Builtin.append_ #[t, tx] o.type #[a.eval s, a.eval x]).run P w = .ok u w' → (execOp a.eval o).run P w = .ok (.value u) w' := by
  intro a w w' u h1
  simp [execOp, ho, resolve, hc, ha, ht, invoke, builtin, h1]
 -- the arm that makes a new row
 have grown : ∀ {w0 : Ori} {F0 : Nat → Nat → Prop} {m : Fr} {D : Nat → Prop} {p : Nat → Option Nat} {c : Nat → Nat} {F : Nat → Nat → Prop} {slots : Sl} {heap heap' : Hp} {a : Act} {w : World} {next : Act → World → Prop} {Q : Exit → Act → World → Prop}
   {base : Option Addr} {n kc : Nat} {cs : List AV} {olds news : List Value} {fz pu : Bool} {d : Hp},
   Rel P w0 F0 m D p c F slots heap a w → ¬ D nx → a.eval s = .slice base n kc → kc < n + mm → room (n + mm) (bytesT P e) →
   (Builtin.firstCells i.size n (.slice base n kc)).run P w.drew = .ok olds.toArray w.drew → olds.length = cs.length → cs.length = n * sizeT P e → ds.length = mm * sizeT P e →
   Src P (sizeT P e) tx (a.eval x) mm news w → news.length = ds.length → (∀ j (h : j < cs.length), Rep w p c F (if pu then noD else D) cs[j] (olds.getD j undef)) → (∀ j (h : j < ds.length), Rep w p c F (if px then noD else D) ds[j] (news.getD j undef)) →
   (∀ r b, look (d ++ heap) r = some (some b) → look ((nx, some ⟨cs ++ ds, some e, fz, pu && px⟩) :: heap) r = some (some b)) →
   (∀ y w' D' p' c' F', Rel P w0 F0 m D' p' c' F' slots (d ++ heap) a w' → Rep w' p' c' F' D' (.sl nx (n + mm)) y → (∀ i, D' i ↔ D i ∨ (nx ≤ i ∧ i < nx + 1)) → next (a.put o.dst y) w') →
   o.wp P a w next Q := by
  intro w0 F0 m D p c F slots heap heap' a w next Q base n kc cs olds news fz pu d hrel hnd hs hg hroom hold hol hcl hdl hsr hnl hco hdo hd hnext
  obtain ⟨hr1, hr2⟩ := hroom
  rw [← hib] at hr2
  have hcell : n + mm ≤ grownCap w (n + mm) kc e := grownCap_ge w (n + mm) kc e
  have hmax : grownCap w (n + mm) kc e ≤ maxLen := grownCap_le_maxLen w (n + mm) kc e (by unfold maxLen; omega)
  have hrun := run_append_grow_src (P := P) w t tx o.type e i z hu hi hz' base n kc olds hold (a.eval x) mm news (by rw [his]; exact hsr) hg (by omega) (growslice_fits hg hr2)
  rw [← hs] at hrun
  have hoks : (olds ++ news).length = (n + mm) * i.size := by rw [List.length_append, hol, hnl, hcl, hdl, his, Nat.add_mul]
  have hb : Below w.heap.size w (w.drew.alloc (.cells ((olds ++ news).toArray ++ Builtin.zeroCells z.cells (grownCap w (n + mm) kc e - (n + mm))) e)) := drew_below (below_alloc w.drew _)
  have hF3 : ∀ j, ¬ F w.heap.size j := fun j hj => by have := (hrel.fr _ _ hj).1; omega
  have hne : ∀ i, D i → i ≠ nx := fun i hi e => hnd (e ▸ hi)
  have hnew := hrel.new (b := ⟨cs ++ ds, some e, fz, pu && px⟩) (k := grownCap w (n + mm) kc e) hb hnd (Nat.le_refl _) (by simp) (fun _ _ h => h) (fun g j hj => .inl hj) (fun j hj => absurd hj (hF3 j)) (isOb_el (by simp)) (by
   have ext := hrel.ext_below hb
   have ext2 : Ext w D p c F _ (addD D nx) (setAt p nx (some w.heap.size)) (setAt c nx (grownCap w (n + mm) kc e)) F := ⟨fun i hi => ⟨.inl hi, setAt_ne p _ (hne i hi), setAt_ne c _ (hne i hi)⟩, fun _ _ h => h, ext.cell⟩
   unfold BlkOk; rw [setAt_same]
   refine ⟨_, e, (0, 0), heap_alloc_new w.drew _, by simp, ?_, fun j hj => ?_, fun e' he => ?_⟩
   ·simp only [List.length_append, Array.size_append, List.size_toArray]; omega
   ·have hj' : j < cs.length + ds.length := by simpa using hj
    have key : Rep w p c F (if pu && px then noD else D) (cs ++ ds)[j] ((olds ++ news).getD j undef) := by
     by_cases h1 : j < cs.length
     ·have e1 : (cs ++ ds)[j] = cs[j] := List.getElem_append_left h1
      have e2 : (olds ++ news).getD j undef = olds.getD j undef := by simp only [List.getD]; rw [List.getElem?_append_left (by omega)]
      rw [e1, e2]; exact pu_and (hco j h1)
     ·have e1 : (cs ++ ds)[j] = ds[j - cs.length] := List.getElem_append_right (by omega)
      have e2 : (olds ++ news).getD j undef = news.getD (j - cs.length) undef := by simp only [List.getD]; rw [List.getElem?_append_right (by omega), hol]
      rw [e1, e2]; exact pu_and' (hdo (j - cs.length) (by omega))
    have e3 : ((olds ++ news).toArray ++ Builtin.zeroCells z.cells (grownCap w (n + mm) kc e - (n + mm))).getD j undef = (olds ++ news).getD j undef := by
     have : j < (olds ++ news).length := by rw [List.length_append]; omega
     simp only [Array.getD_eq_getD_getElem?, List.getD]
     rw [Array.getElem?_append_left (by simpa using this)]
     simp
    rw [e3]
    cases hpu : (pu && px) with
    | true => rw [hpu] at key; exact key.mono ext2.no
    | false => rw [hpu] at key; exact key.mono ext2
   ·injection he with he; subst he
    rw [setAt_same]
    refine ⟨rfl, ?_, by unfold maxLen at hmax; omega⟩
    rw [Array.size_append, size_zeroCells, hzs', List.size_toArray, hoks, ← Nat.add_mul, his]
    congr 1
    omega)
  refine wp_value (runs hrun) (hnext _ _ _ _ _ F (hnew.weaken (fun t v h => .inr h) hd) ?_ fun i => ⟨fun h => by rcases h with h | h; exact .inl h; exact .inr ⟨by omega, by omega⟩, fun h => by rcases h with h | h; exact .inl h; exact .inr (by omega)⟩)
  have := Rep.sl (w := w.drew.alloc (.cells ((olds ++ news).toArray ++ Builtin.zeroCells z.cells (grownCap w (n + mm) kc e - (n + mm))) e)) (p := setAt p nx (some w.heap.size)) (c := setAt c nx (grownCap w (n + mm) kc e)) (F := F) (addD D nx) nx (n + mm) (.inr rfl) (by rw [setAt_same]; exact hcell)
  rw [setAt_same, setAt_same] at this
  exact this
 split at hk
 case h_4 => exact hk.elim
 ·rename_i r n hs
  split at hk
  case h_2 => exact hk.elim
  rename_i cs e' fz pu hb
  split at hk
  case h_2 => exact hk.elim
  rename_i hee
  obtain rfl : e = e' := Nat.eq_of_beq_eq_true hee
  obtain ⟨⟨hroom, hcl, hpre⟩, hk⟩ := hk
  obtain ⟨hdl, hsrc⟩ := hsrc hpre
  refine ⟨_, _, _, ?_, hk⟩
  intro w0 F0 m D p c F slots heap a w next Q hrel hev hh hfresh hnext
  have hnd := hfresh nx (Nat.le_refl _) (by omega)
  have hlook := hh r _ hb
  obtain ⟨news, hsr, hnl, hdo⟩ := hsrc w p c F D a hev fun r b hb => (hrel.live r b (hh r b hb)).2
  obtain ⟨hd, hn, hsv⟩ := (hs ▸ hev s : Rep w p c F D _ _).sl_inv
  have hB := (hrel.live r _ hlook).2
  have hrn : r ≠ nx := fun e => hnd (e ▸ hd)
  have hdrop : ∀ b', ∀ i b, look ([(nx, some b'), (r, none)] ++ heap) i = some (some b) → look ((nx, some b') :: heap) i = some (some b) := by
   intro b' i b hi
   rw [List.cons_append, look_cons] at hi
   rw [look_cons]
   by_cases e1 : nx = i
   ·rw [if_pos e1] at hi ⊢; exact hi
   ·rw [if_neg e1] at hi ⊢
    rw [List.cons_append, look_cons] at hi
    by_cases e2 : r = i
    ·rw [if_pos e2] at hi; injection hi with hi; cases hi
    ·rw [if_neg e2] at hi; exact hi
  cases hp : p r with
  | none =>
   unfold BlkOk at hB
   rw [hp] at hB
   obtain ⟨q1, q2, _⟩ := hB
   simp only at q1
   subst q1
   obtain rfl : n = 0 := by omega
   rw [hp, q2] at hsv
   rcases Nat.eq_zero_or_pos mm with hm | hm
   ·subst hm
    have hds : ds = [] := List.eq_nil_of_length_eq_zero (by rw [hdl, Nat.zero_mul])
    subst hds
    obtain rfl : news = [] := List.eq_nil_of_length_eq_zero (by rw [hnl]; rfl)
    have hrun := run_append_nothing (P := P) w t tx o.type e i hu hi none 0 0 (Nat.le_refl _) (a.eval x) (by rw [his]; exact hsr)
    have hrun' : (Builtin.append_ #[t, tx] o.type #[a.eval s, a.eval x]).run P w = .ok (.slice none 0 0) w := by rw [hsv]; exact hrun
    have hnew := (hrel.newNil hnd e fz (pu && px)).weaken (fun t v h => .inr h) (hdrop ⟨[], some e, fz, pu && px⟩)
    refine wp_value (runs hrun') (hnext _ w _ _ _ F hnew ?_ fun i => ⟨fun h => by rcases h with h | h; exact .inl h; exact .inr ⟨by omega, by omega⟩, fun h => by rcases h with h | h; exact .inl h; exact .inr (by omega)⟩)
    have := Rep.sl (w := w) (p := setAt p nx none) (c := setAt c nx 0) (F := F) (addD D nx) nx 0 (.inr rfl) (by rw [setAt_same]; omega)
    rw [setAt_same, setAt_same] at this
    exact this
   ·exact grown (cs := []) (olds := []) (news := news) (base := none) (n := 0) (kc := 0) (fz := fz) (pu := pu) (d := [(nx, some ⟨[] ++ ds, some e, fz, pu && px⟩), (r, none)]) (heap' := heap) hrel hnd hsv (by omega) hroom
     (run_firstCells_none w.drew i.size 0 0 0) rfl (by simp) hdl hsr hnl (fun j h => by simp at h) hdo (hdrop _) hnext
  | some g =>
   obtain ⟨us, tt, fr, k1, k2, k3, k4, k5⟩ := hB.at hp
   obtain ⟨rfl, k5b, k5c⟩ := k5 e rfl
   simp only at k3
   rw [hp] at hsv
   have hnle : n * sizeT P tt ≤ us.size := by omega
   have hol : (us.toList.take (n * sizeT P tt)).length = cs.length := by
    rw [List.length_take, Nat.min_eq_left (by simpa using hnle)]; exact hcl.symm
   have hoat : ∀ j, j < cs.length → (us.toList.take (n * sizeT P tt)).getD j undef = us.getD j undef := by
    intro j hj
    simp only [List.getD]
    rw [List.getElem?_take_of_lt (by omega)]
    simp
   rcases Nat.lt_or_ge (c r) (n + mm) with hg | hroomy
   ·have hold := olds_run (P := P) (size := i.size) (n := n) (k := c r) k1 (by rw [his]; exact hnle)
    rw [his] at hold
    exact grown (cs := cs) (olds := us.toList.take (n * sizeT P tt)) (news := news) (base := some ⟨g, 0, none⟩) (n := n) (kc := c r) (fz := fz) (pu := pu) (d := [(nx, some ⟨cs ++ ds, some tt, fz, pu && px⟩), (r, none)]) (heap' := heap) hrel hnd hsv hg hroom
     (by rw [his]; exact hold) hol hcl hdl hsr hnl (fun j hj => by rw [hoat j hj]; exact k4 j hj) hdo (hdrop _) hnext
   ·have hspace : n * sizeT P tt + news.length ≤ us.size := by
     rw [hnl, hdl, ← Nat.add_mul, k5b]; exact Nat.mul_le_mul_right _ hroomy
    have hrun := run_append_room_src (P := P) w t tx o.type tt i hu hi g 0 n (c r) (a.eval x) mm news (by rw [his]; exact hsr) hroomy
     (fun j hj => by rw [Nat.zero_add, his, cell_at k1 (by omega)]; rfl) (fun j hj => by rw [Nat.zero_add, his]; exact frozen_at k1 k2 (by omega))
    rw [Nat.zero_add, his, ← hcl] at hrun
    have hrun' : (Builtin.append_ #[t, tx] o.type #[a.eval s, a.eval x]).run P w = .ok (.slice (some ⟨g, 0, none⟩) (n + mm) (c r)) (w.setCells g cs.length news) := by rw [hsv]; exact hrun
    have hne : ∀ i, D i → i ≠ nx := fun i hi e => hnd (e ▸ hi)
    have hFj : ∀ j, F g j → j < cs.length := fun j hj => (hrel.fz r _ g j hlook hp hj).2
    have ext2 : Ext w D p c F (w.setCells g cs.length news) (addD D nx) (setAt p nx (some g)) (setAt c nx (c r)) F :=
     ⟨fun i hi => ⟨.inl hi, setAt_ne p _ (hne i hi), setAt_ne c _ (hne i hi)⟩, fun _ _ h => h, fun g' j hj => by
      by_cases e1 : g' = g
      ·subst e1; exact World.cell?_setCells_out g' news cs.length w ⟨g', j, none⟩ fun _ _ => .inl (hFj j hj)
      ·exact World.cell?_of_block (w := w) (a := ⟨g', j, none⟩) (heap_setCells_ne e1 _ _ w)⟩
    have hturn := hrel.turn (r' := nx) (b' := ⟨cs ++ ds, some tt, fz, pu && px⟩) hlook hp news cs.length (.inr hnd) (c r) hFj (fun h => h) (by simp) (isOb_el (by simp)) (by
     unfold BlkOk; rw [setAt_same]
     refine ⟨setV us cs.length news, tt, fr, heap_setCells _ us _ w k1, by rw [setV_size]; exact k2, by rw [setV_size, List.length_append]; omega, fun j hj => ?_, fun e' he => by injection he with he; subst he; rw [setV_size, setAt_same]; exact ⟨rfl, k5b, k5c⟩⟩
     have hj' : j < cs.length + ds.length := by simpa using hj
     have key : Rep w p c F (if pu && px then noD else D) (cs ++ ds)[j] ((setV us cs.length news).getD j undef) := by
      by_cases h1 : j < cs.length
      ·have e1 : (cs ++ ds)[j] = cs[j] := List.getElem_append_left h1
       have e2 : (setV us cs.length news).getD j undef = us.getD j undef := by rw [setV_getD _ _ _ _ (by omega), if_neg (by omega)]
       rw [e1, e2]; exact pu_and (k4 j h1)
      ·have e1 : (cs ++ ds)[j] = ds[j - cs.length] := List.getElem_append_right (by omega)
       have e2 : (setV us cs.length news).getD j undef = news.getD (j - cs.length) undef := by rw [setV_getD _ _ _ _ (by omega), if_pos (by omega)]
       rw [e1, e2]; exact pu_and' (hdo (j - cs.length) (by omega))
     cases hpu : (pu && px) with
     | true => rw [hpu] at key; exact key.mono ext2.no
     | false => rw [hpu] at key; exact key.mono ext2) (fun e => absurd e.symm hrn)
    rw [if_neg (Ne.symm hrn)] at hturn
    refine wp_value (runs hrun') (hnext _ _ _ _ _ F hturn ?_ fun i => ⟨fun h => by rcases h with h | h; exact .inl h; exact .inr ⟨by omega, by omega⟩, fun h => by rcases h with h | h; exact .inl h; exact .inr (by omega)⟩)
    have := Rep.sl (w := w.setCells g cs.length news) (p := setAt p nx (some g)) (c := setAt c nx (c r)) (F := F) (addD D nx) nx (n + mm) (.inr rfl) (by rw [setAt_same]; exact hroomy)
    rw [setAt_same, setAt_same] at this
    exact this
 ·rename_i hs
  obtain ⟨⟨hroom, hpre⟩, hk⟩ := hk
  obtain ⟨hdl, hsrc⟩ := hsrc hpre
  refine ⟨_, _, _, ?_, hk⟩
  intro w0 F0 m D p c F slots heap a w next Q hrel hev hh hfresh hnext
  have hnd := hfresh nx (Nat.le_refl _) (by omega)
  obtain ⟨news, hsr, hnl, hdo⟩ := hsrc w p c F D a hev fun r b hb => (hrel.live r b (hh r b hb)).2
  have hsv := (hs ▸ hev s : Rep w p c F D _ _).ex_inv
  rcases Nat.eq_zero_or_pos mm with hm | hm
  ·subst hm
   have hds : ds = [] := List.eq_nil_of_length_eq_zero (by rw [hdl, Nat.zero_mul])
   subst hds
   obtain rfl : news = [] := List.eq_nil_of_length_eq_zero (by rw [hnl]; rfl)
   have hrun := run_append_nothing (P := P) w t tx o.type e i hu hi none 0 0 (Nat.le_refl _) (a.eval x) (by rw [his]; exact hsr)
   have hrun' : (Builtin.append_ #[t, tx] o.type #[a.eval s, a.eval x]).run P w = .ok (.slice none 0 0) w := by rw [hsv]; exact hrun
   have hnew := hrel.newNil hnd e false px
   refine wp_value (runs hrun') (hnext _ w _ _ _ F hnew ?_ fun i => ⟨fun h => by rcases h with h | h; exact .inl h; exact .inr ⟨by omega, by omega⟩, fun h => by rcases h with h | h; exact .inl h; exact .inr (by omega)⟩)
   have := Rep.sl (w := w) (p := setAt p nx none) (c := setAt c nx 0) (F := F) (addD D nx) nx 0 (.inr rfl) (by rw [setAt_same]; omega)
   rw [setAt_same, setAt_same] at this
   exact this
  ·refine grown (cs := []) (olds := []) (news := news) (base := none) (n := 0) (kc := 0) (fz := false) (pu := true) (d := [(nx, some ⟨ds, some e, false, px⟩)]) (heap' := heap) hrel hnd hsv (by omega) (by rw [Nat.zero_add]; exact hroom)
     (run_firstCells_none w.drew i.size 0 0 0) rfl (by simp) hdl hsr hnl (fun j h => by simp at h) hdo (fun r b h => h) ?_
   rw [Nat.zero_add]; exact hnext
 ·rename_i n cs hs
  obtain ⟨⟨hroom, hcl, hm, hpre⟩, hk⟩ := hk
  obtain ⟨hdl, hsrc⟩ := hsrc hpre
  refine ⟨_, _, _, ?_, hk⟩
  intro w0 F0 m D p c F slots heap a w next Q hrel hev hh hfresh hnext
  have hnd := hfresh nx (Nat.le_refl _) (by omega)
  obtain ⟨news, hsr, hnl, hdo⟩ := hsrc w p c F D a hev fun r b hb => (hrel.live r b (hh r b hb)).2
  rcases (hs ▸ hev s : Rep w p c F D _ _).vf_inv with ⟨rfl, rfl, a0, hsv⟩ | ⟨g, q, u, hsv, hw⟩
  ·exact grown (cs := []) (olds := []) (news := news) (base := a0) (n := 0) (kc := 0) (fz := false) (pu := true) (d := [(nx, some ⟨[] ++ ds, some e, false, px⟩)]) (heap' := heap) hrel hnd hsv (by omega) hroom
     (by cases a0 with | none => exact run_firstCells_none w.drew i.size 0 0 0 | some ad => exact run_firstCells_some w.drew i.size 0 ad 0 0 [] (by simp) (fun j v hv => by simp at hv)) rfl (by simp) hdl hsr hnl (fun j h => by simp at h) hdo (fun r b h => h) hnext
  ·have hat : ∀ j, j < cs.length → ((List.range cs.length).map u).getD j undef = u j := by intro j hj; simp [List.getD, hj]
   have hold : (Builtin.firstCells i.size n (.slice (some ⟨g, q, none⟩) n n)).run P w.drew = .ok ((List.range cs.length).map u).toArray w.drew := by
    refine run_firstCells_some w.drew i.size n ⟨g, q, none⟩ n n _ (by rw [his]; simpa using hcl) fun j v hv => ?_
    have hj : j < cs.length := by
     have := (List.getElem?_eq_some_iff.1 hv).1; simpa using this
    have e1 := hat j hj
    rw [List.getD, hv] at e1
    rw [Addr.add_lit]
    have e2 : w.drew.cell? ⟨g, q + j, none⟩ = w.cell? ⟨g, q + j, none⟩ := rfl
    rw [e2, (hw.1 j hj).2]; exact congrArg some e1.symm
   exact grown (cs := cs) (olds := (List.range cs.length).map u) (news := news) (base := some ⟨g, q, none⟩) (n := n) (kc := n) (fz := false) (pu := true) (d := [(nx, some ⟨cs ++ ds, some e, false, px⟩)]) (heap' := heap) hrel hnd hsv (by omega) hroom
     hold (by simp) hcl hdl hsr hnl (fun j hj => by rw [hat j hj]; exact hw.2 j hj) hdo (fun r b h => h) hnext
end
end
section
section
variable {P : Program} {o : Oper} {sl : Sl} {h : Hp} {nx : Nat} {k : Kt}
theorem ok_append {cl : Call} {s x : Operand} {t tx : TypeId} (ho : o.op = .call cl) (hc : cl.callee = .builtin .append) (ha : cl.args.toList = [s, x]) (ht : cl.argTypes.toList = [t, tx])
  (hk : opAppend P sl h nx t tx s x k) : Is P o sl h nx k := by
 have ha' : cl.args = #[s, x] := by rw [← Array.toList_inj]; exact ha
 have ht' : cl.argTypes = #[t, tx] := by rw [← Array.toList_inj]; exact ht
 unfold opAppend at hk
 split at hk
 case h_2 => exact hk.elim
 rename_i e hu
 split at hk
 case h_3 => exact hk.elim
 ·rename_i e' htx
  split at hk
  case h_2 => exact hk.elim
  rename_i m ds px hs
  refine ok_appendOn ho hc ha' ht' hu (fun hpre => ⟨hpre.1, fun w p c F D a hev hl => ?_⟩) hk
  exact readS_ok hs (hev x) hl htx hpre.1 hpre.2
 ·rename_i htx
  split at hk
  case h_2 => exact hk.elim
  rename_i b hx hone
  have h1 : 1 = sizeT P e := Nat.eq_of_beq_eq_true hone
  refine ok_appendOn ho hc ha' ht' hu (fun hpre => ⟨by rw [← h1]; simp [bytesA], fun w p c F D a hev hl => ?_⟩) hk
  have hxv := (hx ▸ hev x : Rep w p c F D _ _).ex_inv
  obtain ⟨q1, q2, q3⟩ := byte_src (w := w) (p := p) (c := c) (F := F) htx b
  rw [← h1, hxv]
  exact ⟨_, q1, q2, q3⟩
theorem zeroL_length (z : List AV) : ∀ n, (zeroL z n).length = n * z.length
 | 0 => by simp [zeroL]
 | n + 1 => by rw [zeroL, List.length_append, zeroL_length z n, Nat.succ_mul]; omega
theorem zeroL_at (z : List AV) : ∀ (n j : Nat) (h : j < (zeroL z n).length) (h2 : j % z.length < z.length), (zeroL z n)[j] = z[j % z.length]
 | 0, j, h, _ => by simp [zeroL] at h
 | n + 1, j, h, h2 => by
  simp only [zeroL]
  by_cases h1 : j < z.length
  ·rw [List.getElem_append_left h1]
   have : j % z.length = j := Nat.mod_eq_of_lt h1
   simp [this]
  ·rw [List.getElem_append_right (by omega)]
   have e : (j - z.length) % z.length = j % z.length := (Nat.mod_eq_sub_mod (by omega)).symm
   have h3 : j - z.length < (zeroL z n).length := by
    simp only [zeroL, List.length_append] at h; omega
   rw [zeroL_at z n (j - z.length) h3 (by rw [e]; exact h2)]
   simp [e]
theorem ok_make {t : TypeId} {x y : Operand} (ho : o.op = .makeSlice t x y) (hk : opMake P sl nx t x y k) : Is P o sl h nx k := by
 unfold opMake at hk
 split at hk
 case h_2 => exact hk.elim
 rename_i e hu
 split at hk
 case h_2 => exact hk.elim
 rename_i z kn n kc c hz hx hy
 split at hk
 case h_2 => exact hk.elim
 rename_i hzs hpos hbp
 obtain ⟨⟨h0, h1, hroom⟩, hk⟩ := hk
 obtain ⟨i, hi, his, hib⟩ := info_of hpos
 have hz' : i.zero = some z := by unfold zeroT at hz; rw [hi] at hz; exact hz
 have hzs' : z.cells.size = sizeT P e := Nat.eq_of_beq_eq_true hzs
 have hspos : 0 < sizeT P e := Nat.pos_of_ne_zero (size_run (P := P) (w := default) hpos).2
 obtain ⟨hr1, hr2⟩ := hroom
 have hzl : (AV.ex z).cells.length = sizeT P e := by
  rw [← hzs']; cases z <;> simp [AV.cells, Value.cells]
 have hnc : n.toNat ≤ c.toNat := by omega
 refine ⟨_, _, _, okNew (.inr ⟨_, rfl⟩) (isOb_el (by simp)) fun w p cc F D a hev hl => ⟨w.alloc (.cells (madeCells z.cells (c.toNat * i.size)) e), madeCells z.cells (c.toNat * i.size), e, (0, 0), c.toNat, ?_, below_alloc w _, heap_alloc_new w _, by simp, ?_, fun j hj => ?_, (fun e' he => by injection he with he; subst he; exact ⟨rfl, by rw [size_madeCells, his], by omega⟩), (fun n' hn' => by injection hn' with _ hn'; omega)⟩, hk⟩
 ·have hx' := (hx ▸ hev x : Rep w p cc F D _ _).ex_inv
  have hy' := (hy ▸ hev y : Rep w p cc F D _ _).ex_inv
  have hb : (i.bytes : Int) * c ≤ 281474976710656 := by
   rw [hib]
   have e1 : (bytesT P e : Int) * c = ((c.toNat * bytesT P e : Nat) : Int) := by
    rw [Int.natCast_mul, Int.toNat_of_nonneg (by omega), Int.mul_comm]
   rw [e1]; omega
  have := run_make (P := P) w t e i z hu hi hz' kn kc n c h0 h1 hb (by omega)
  simp only [execOp, ho, hx', hy', Sem.run_bind, this, Result.andThen_ok, Sem.run_pure]
 ·rw [zeroL_length, hzl, size_madeCells, his]; exact Nat.mul_le_mul_right _ hnc
 ·rw [zeroL_length, hzl] at hj
  have hm : j % (AV.ex z).cells.length < (AV.ex z).cells.length := Nat.mod_lt _ (by rw [hzl]; exact hspos)
  have hj2 : j < c.toNat * i.size := by rw [his]; exact Nat.lt_of_lt_of_le hj (Nat.mul_le_mul_right _ hnc)
  rw [zeroL_at _ _ _ _ hm]
  have e1 : (madeCells z.cells (c.toNat * i.size)).getD j undef = z.cells.getD (j % z.cells.size) undef := by
   have hm2 : j % z.cells.size < z.cells.size := Nat.mod_lt _ (by omega)
   simp [madeCells, hj2, hm2]
  have e2 : (AV.ex z).cells.length = z.cells.size := by rw [hzl, hzs']
  have h3 := ((Rep.ex (w := w) (p := p) (c := cc) (F := F) noD z).cells (by simp) (fun K h => by cases h)).2 _ hm
  have e4 : z.cells.getD (j % (AV.ex z).cells.length) undef = z.cells.getD (j % z.cells.size) undef := by rw [e2]
  rw [e1, ← e4]
  exact h3
theorem ok_convert {src dst : TypeId} {x : Operand} (ho : o.op = .convert src dst x) (hk : opConvert P sl h nx o src dst x k) : Is P o sl h nx k := by
 unfold opConvert at hk
 split at hk
 ·rename_i e hs hd
  split at hk
  case h_2 => exact hk.elim
  rename_i s he hx
  split at hk
  case h_2 => exact hk.elim
  rename_i hone
  obtain ⟨hsz, hk⟩ := hk
  have h1 : 1 = sizeT P e := Nat.eq_of_beq_eq_true hone
  refine ⟨_, _, _, okNew (.inr ⟨_, rfl⟩) (isOb_el (by simp)) fun w p cc F D a hev hl => ⟨Lib.bytesWorld w e s, Lib.bytesCells w e s, e, _, grownCap w s.size 0 e, ?_, ?_, Lib.bytesWorld_at_new w e s, by simp, ?_, fun j hj => ?_, (fun e' he => by
    injection he with he; subst he
    refine ⟨rfl, ?_, ?_⟩
    ·have := grownCap_ge w s.size 0 e
     rw [← h1, Nat.mul_one]
     simp only [Lib.bytesCells, Array.size_append, Array.size_map, Array.size_replicate]
     have e3 : s.data.size = s.size := rfl
     omega
    ·have := grownCap_le_maxLen w s.size 0 e (by unfold maxLen; omega); unfold maxLen at this; omega), (fun n' hn' => by injection hn' with _ hn'; rw [← hn']; exact grownCap_ge w s.size 0 e)⟩, hk⟩
  ·have hx' := (hx ▸ hev x : Rep w p cc F D _ _).ex_inv
   have := Lib.run_convert_string_bytes (P := P) w src dst e s hs hd he
   simp only [execOp, ho, hx', Sem.run_bind, this, Result.andThen_ok, Sem.run_pure]
  ·exact ⟨rfl, rfl, rfl, by rw [Lib.bytesWorld_size]; omega, fun k hk => Lib.bytesWorld_at_old w e s k hk⟩
  ·simp [Lib.bytesCells, bytesA]
  ·have hj' : j < s.data.toList.length := by simpa [bytesA] using hj
   have e1 : (bytesA s.data.toList)[j] = byteA s.data.toList[j] := by simp [bytesA]
   have hj2 : j < s.data.size := by simpa using hj'
   have e2 : (Lib.bytesCells w e s).getD j undef = .int .u8 (s.data.toList[j].toNat : Int) := by
    simp only [Lib.bytesCells, Array.getD_eq_getD_getElem?]
    rw [Array.getElem?_append_left (by simpa using hj2)]
    have e3 : s.data[j]? = some s.data[j] := Array.getElem?_eq_getElem hj2
    simp [e3]
   rw [e1, e2]; exact .ex _ _
 ·rename_i e hs hd
  split at hk
  case h_2 => exact hk.elim
  rename_i he
  split at hk
  case h_2 => exact hk.elim
  rename_i n cs px hrs
  obtain ⟨l, ⟨hcs, hn⟩, hk⟩ := hk
  subst hcs hn
  refine ⟨_, _, _, okRead fun w p c F D a hev hl => ?_, hk⟩
  obtain ⟨news, hsr, hnl, hdo⟩ := readS_ok (size := 1) hrs (hev x) (fun r b hb => (hl r b hb).2) hs (by simp [bytesA]) (by
   intro v hv
   obtain ⟨b, _, rfl⟩ := List.mem_map.1 hv
   rfl)
  have hat : ∀ j (hj : j < l.length), news.getD j undef = .int .u8 (l[j].toNat : Int) := by
   intro j hj
   have hj' : j < (bytesA l).length := by simpa [bytesA] using hj
   have h2 := hdo j hj'
   have e1 : (bytesA l)[j] = byteA l[j] := by simp [bytesA]
   rw [e1] at h2
   have : Rep w p c F D (byteA l[j]) (news.getD j undef) := h2.pu
   exact this.ex_inv
  have conv : ∀ (ad : Addr) (cap : Nat), a.eval x = .slice (some ad) l.length cap → (∀ j (hj : j < l.length), w.cell? (ad.add j) = some (.int .u8 (l[j].toNat : Int))) → ∃ y, (execOp a.eval o).run P w = .ok (.value y) w ∧ Rep w p c F D (.ex (.string ⟨l.toArray⟩)) y := by
   intro ad cap hx hc
   have := run_convert_bytes_back (P := P) w src dst e ad cap l hs he hd hc
   exact ⟨_, by simp only [execOp, ho, hx, Sem.run_bind, this, Result.andThen_ok, Sem.run_pure], .ex _ _⟩
  have nilc : (∃ a0, a.eval x = .slice a0 0 0) → l = [] → ∃ y, (execOp a.eval o).run P w = .ok (.value y) w ∧ Rep w p c F D (.ex (.string ⟨l.toArray⟩)) y := by
   rintro ⟨a0, hx⟩ hl0
   subst hl0
   cases a0 with
   | some ad => exact conv ad 0 hx fun j hj => by simp at hj
   | none =>
   have := run_convert_bytes_nil (P := P) w src e hs he 0 0 dst hd
   exact ⟨_, (by simp only [execOp, ho, hx, Sem.run_bind, this, Result.andThen_ok, Sem.run_pure]; rfl), .ex _ _⟩
  have hx := hev x
  unfold readS at hrs
  split at hrs
  ·rename_i n' cs' hxx
   simp only [Option.some.injEq, Prod.mk.injEq] at hrs
   obtain ⟨rfl, rfl, rfl⟩ := hrs
   rw [hxx] at hx
   rcases hx.vs_inv with ⟨h1, h2, h3⟩ | ⟨g, q, kk, u, h1, h2, h3⟩
   ·exact nilc h3 (List.eq_nil_of_length_eq_zero h1)
   ·refine conv _ _ h2 fun j hj => ?_
    have hj' : j < (bytesA l).length := by simpa [bytesA] using hj
    rw [Addr.add_lit, (h3.1 j hj').2]
    have h4 := h3.2 j hj'
    have e1 : (bytesA l)[j] = byteA l[j] := by simp [bytesA]
    rw [e1] at h4
    exact congrArg some h4.ex_inv
  ·rename_i n' cs' hxx
   simp only [Option.some.injEq, Prod.mk.injEq] at hrs
   obtain ⟨rfl, rfl, rfl⟩ := hrs
   rw [hxx] at hx
   rcases hx.vf_inv with ⟨h1, h2, h3⟩ | ⟨g, q, u, h2, h3⟩
   ·exact nilc h3 (List.eq_nil_of_length_eq_zero h1)
   ·refine conv _ _ h2 fun j hj => ?_
    have hj' : j < (bytesA l).length := by simpa [bytesA] using hj
    rw [Addr.add_lit, (h3.1 j hj').2]
    have h4 := h3.2 j hj'
    have e1 : (bytesA l)[j] = byteA l[j] := by simp [bytesA]
    rw [e1] at h4
    exact congrArg some h4.ex_inv
  ·rename_i r n' hxx
   split at hrs
   ·rename_i cs' el fz pu hb
    simp only [Option.some.injEq, Prod.mk.injEq] at hrs
    obtain ⟨rfl, rfl, rfl⟩ := hrs
    rw [hxx] at hx
    obtain ⟨hd', hn', hxv⟩ := hx.sl_inv
    have hB := (hl r _ hb).2
    cases hp : p r with
    | none =>
     unfold BlkOk at hB
     rw [hp] at hB
     obtain ⟨q1, q2, _⟩ := hB
     have hl0 : l.length = 0 := by omega
     rw [hp, q2, hl0] at hxv
     exact nilc ⟨_, hxv⟩ (List.eq_nil_of_length_eq_zero hl0)
    | some g =>
     rw [hp] at hxv
     refine conv ⟨g, 0, none⟩ (c r) hxv fun j hj => ?_
     have hj' : j < (bytesA l).length := by simpa [bytesA] using hj
     obtain ⟨u, q1, q2⟩ := hB.cell hp (j := j) hj'
     have e1 : (bytesA l)[j] = byteA l[j] := by simp [bytesA]
     rw [Addr.add_lit, Nat.zero_add, q1]
     have q3 : Rep w p c F D (byteA l[j]) u := e1 ▸ q2
     exact congrArg some q3.ex_inv
   ·cases hrs
  ·rename_i hxx
   simp only [Option.some.injEq, Prod.mk.injEq] at hrs
   obtain ⟨h1, h2, h3⟩ := hrs
   rw [hxx] at hx
   exact nilc ⟨_, hx.ex_inv⟩ (List.eq_nil_of_length_eq_zero h1.symm)
  ·cases hrs
 ·rename_i k2 hs hd
  split at hk
  ·rename_i kk n hx
   obtain ⟨z, hz, hk⟩ := hk
   refine ⟨_, _, _, okQuiet fun w p c F D a hev => ⟨.int k2 z, ?_, .ex _ _⟩, hk⟩
   have h1 := (hx ▸ hev x : Rep w p c F D _ _).ex_inv
   simp [execOp, ho, h1, convert, run_underlying hs, run_underlying hd, Conv.intToInt, hz]
  ·exact ok_fall (by intro cs b hh; rw [ho] at hh; cases hh) hk
 ·exact ok_fall (by intro cs b hh; rw [ho] at hh; cases hh) hk
end
end
end Go.Proofs.YtbaedepmogkkeaaGreat.Av
