/- The abstract machine's operations are true of the model: what is frozen, handed to a call and handed back. No program's law is stated here. No conditions. -/
import Derived.Test.YtfonmnodjmeigaaAv4
namespace Go.Proofs.Ytfonmnodjmeigaa.Av
open Go Go.RowKit
set_option linter.unusedVariables false
set_option linter.unusedSimpArgs false

section
variable {P : Program} {w w' w0 : World} {D : Nat → Prop} {p : Nat → Option Nat} {c : Nat → Nat} {F F0 : Nat → Nat → Prop} {m : Nat} {slots : Sl} {heap : Hp} {a : Act}
/-- the first cells of a block are never written any more -/
def moreF (F : Nat → Nat → Prop) (g n : Nat) : Nat → Nat → Prop := fun g' j => F g' j ∨ (g' = g ∧ j < n)
theorem Rel.moreF_ (h : Rel P w0 F0 m D p c F slots heap a w) {r g : Nat} {b : ABlk} (hr : look heap r = some (some b)) (hp : p r = some g) (hz : b.fz = true) :
    Rel P w0 F0 m D p c (moreF F g b.cells.length) slots heap a w := by
  have hl := h.live r b hr
  refine h.upd ⟨fun i hi => ⟨hi, rfl, rfl⟩, fun g j hj => .inl hj, fun _ _ _ => rfl⟩ (fun i b' hi => ⟨(h.live i b' hi).1, (h.live i b' hi).2.mono (h.live i b' hi).1 ⟨fun i hi => ⟨hi, rfl, rfl⟩, fun g j hj => .inl hj, fun _ _ _ => rfl⟩ fun _ _ => rfl⟩)
    h.inj h.own ?_ ?_ h.below
  · rintro g' j (hj | ⟨rfl, hj⟩)
    · exact h.fr g' j hj
    · exact ⟨hl.2.lt hp, .inr (h.own r b g' hr hp)⟩
  · rintro i b' g' j hi hpi (hj | ⟨rfl, hj⟩)
    · exact h.fz i b' g' j hi hpi hj
    · have := h.inj i r b' b g' hi hr hpi hp
      subst this
      rw [hr] at hi; injection hi with hi; injection hi with hi; subst hi
      exact ⟨hz, hj⟩
/-- a block whose cells stay as they are is laid down anew -/
theorem Rel.relay (h : Rel P w0 F0 m D p c F slots heap a w) {r : Nat} {b : ABlk} (hr : look heap r = some (some b)) : Rel P w0 F0 m D p c F slots ((r, some { b with fz := true }) :: heap) a w := by
  have key : ∀ i b', look ((r, some { b with fz := true }) :: heap) i = some (some b') → ∃ b0, look heap i = some (some b0) ∧ b'.cells = b0.cells ∧ b'.el = b0.el ∧ b'.pu = b0.pu ∧ (b0.fz = true → b'.fz = true) := by
    intro i b' hi
    rw [look_cons] at hi
    by_cases e : r = i
    · subst e; rw [if_pos rfl] at hi; injection hi with hi; injection hi with hi; subst hi
      exact ⟨b, hr, rfl, rfl, rfl, fun _ => rfl⟩
    · rw [if_neg e] at hi; exact ⟨b', hi, rfl, rfl, rfl, id⟩
  refine h.upd .refl (fun i b' hi => ?_) (fun i i' b1 b2 g h1 h2 => ?_) (fun i b' g hi => ?_) h.fr (fun i b' g j hi hpi hj => ?_) h.below
  · obtain ⟨b0, h0, e1, e2, e3, _⟩ := key i b' hi
    have := h.live i b0 h0
    refine ⟨this.1, ?_⟩
    have h2 := this.2
    unfold BlkOk at h2 ⊢
    rw [e1, e2, e3]; exact h2
  · obtain ⟨_, h1', _⟩ := key i b1 h1
    obtain ⟨_, h2', _⟩ := key i' b2 h2
    exact h.inj i i' _ _ g h1' h2'
  · obtain ⟨_, h0, _⟩ := key i b' hi
    exact h.own i _ g h0
  · obtain ⟨b0, h0, e1, _, _, e4⟩ := key i b' hi
    obtain ⟨k1, k2⟩ := h.fz i b0 g j h0 hpi hj
    exact ⟨e4 k1, by rw [e1]; exact k2⟩
/-- What a view tells of the blocks, up to what is frozen. -/
def ViewF (h : Hp) (heap : Hp) : Prop := ∀ r b, blkOf h r = some b → ∃ f, look heap r = some (some { b with fz := f }) ∧ (b.fz = true → f = true)
theorem viewF_of {h heap : Hp} (hv : ∀ r b, blkOf h r = some b → look heap r = some (some b)) : ViewF h heap := fun r b hb => ⟨b.fz, hv r b hb, id⟩
theorem Rel.freezes_ {h : Hp} : ∀ (l : List Nat) {heap : Hp} {F : Nat → Nat → Prop}, Rel P w0 F0 m D p c F slots heap a w → ViewF h heap →
    ∃ F', Rel P w0 F0 m D p c F' slots (freezes h l ++ heap) a w ∧ (∀ g j, F g j → F' g j) ∧ ViewF h (freezes h l ++ heap) ∧
      ∀ r ∈ l, ∀ b, blkOf h r = some b → ∀ g, p r = some g → ∀ j, j < b.cells.length → F' g j
  | [], heap, F, hr, hv => ⟨F, hr, fun _ _ h => h, hv, fun r hr => absurd hr (by simp)⟩
  | r :: l, heap, F, hr, hv => by
    obtain ⟨F1, k1, k2, k3, k4⟩ := Rel.freezes_ l hr hv
    unfold freezes
    cases hb : blkOf h r with
    | none => exact ⟨F1, k1, k2, k3, fun r' hr' b' hb' => by
        rcases List.mem_cons.1 hr' with e | e
        · subst e; rw [hb] at hb'; cases hb'
        · exact k4 r' e b' hb'⟩
    | some b =>
      obtain ⟨cs, el, fz, pu⟩ := b
      obtain ⟨f, hf1, hf2⟩ := k3 r _ hb
      have fin : ∀ {heap' : Hp}, Rel P w0 F0 m D p c F1 slots heap' a w → look heap' r = some (some ⟨cs, el, true, pu⟩) → ViewF h heap' →
          ∃ F', Rel P w0 F0 m D p c F' slots heap' a w ∧ (∀ g j, F g j → F' g j) ∧ ViewF h heap' ∧ ∀ r' ∈ r :: l, ∀ b, blkOf h r' = some b → ∀ g, p r' = some g → ∀ j, j < b.cells.length → F' g j := by
        intro heap' q1 q2 q3
        cases hp : p r with
        | none => exact ⟨F1, q1, k2, q3, fun r' hr' b' hb' g hg => by
            rcases List.mem_cons.1 hr' with e | e
            · subst e; rw [hp] at hg; cases hg
            · exact k4 r' e b' hb' g hg⟩
        | some g0 => exact ⟨_, q1.moreF_ q2 hp rfl, fun g j hj => .inl (k2 g j hj), q3, fun r' hr' b' hb' g hg j hj => by
            rcases List.mem_cons.1 hr' with e | e
            · subst e
              rw [hb] at hb'; injection hb' with hb'; subst hb'
              rw [hp] at hg; injection hg with hg
              exact .inr ⟨hg.symm, hj⟩
            · exact .inl (k4 r' e b' hb' g hg j hj)⟩
      cases fz with
      | true =>
        simp only at hf2
        have : f = true := hf2 trivial
        subst this
        exact fin k1 hf1 k3
      | false =>
        refine fin (heap' := (r, some ⟨cs, el, true, pu⟩) :: (freezes h l ++ heap)) (k1.relay hf1) (by rw [look_cons, if_pos rfl]) ?_
        intro r' b' hb'
        rw [look_cons]
        by_cases e : r = r'
        · subst e
          rw [hb] at hb'; injection hb' with hb'; subst hb'
          exact ⟨true, by rw [if_pos rfl], fun _ => rfl⟩
        · rw [if_neg e]; exact k3 r' b' hb'

/-- what is handed on, as it is told outside -/
theorem packC_ok {h : Hp} {v v' : AV} {x : Value} {fr : List Nat} (hp : packC h v = some (v', fr)) (hr : Rep w p c F D v x)
    (hl : ∀ r b, blkOf h r = some b → BlkOk P w D p c F r b) (hf : ∀ r ∈ fr, ∀ b, blkOf h r = some b → ∀ g, p r = some g → ∀ j, j < b.cells.length → F g j) : Rep w p c F noD v' x := by
  cases v with
  | ex v => simp [packC] at hp; obtain ⟨rfl, rfl⟩ := hp; rw [hr.ex_inv]; exact .ex _ _
  | unk => simp [packC] at hp; obtain ⟨rfl, rfl⟩ := hp; exact .unk _ _
  | vs n cs =>
    simp [packC] at hp; obtain ⟨rfl, rfl⟩ := hp
    rcases hr.vs_inv with ⟨rfl, rfl, rfl⟩ | ⟨g, q, k, u, h1, rfl, h2⟩
    · exact .vnil _
    · exact .vs _ n cs g q k u h1 h2.1 h2.2
  | vp cs off =>
    simp [packC] at hp; obtain ⟨rfl, rfl⟩ := hp
    obtain ⟨g, q, u, rfl, h2⟩ := hr.vp_inv
    exact .vp _ cs off g q u h2.1 h2.2
  | vq cs off =>
    simp [packC] at hp; obtain ⟨rfl, rfl⟩ := hp
    obtain ⟨g, q, u, rfl, h2⟩ := hr.vq_inv
    exact .vq _ cs off g q u h2.1 h2.2
  | sl r n =>
    unfold packC at hp
    dsimp only at hp
    cases hb : blkOf h r with
    | none => rw [hb] at hp; cases hp
    | some b =>
      obtain ⟨cs, el, fz, pu⟩ := b
      rw [hb] at hp
      cases pu with
      | false => cases hp
      | true =>
        simp only [Option.some.injEq, Prod.mk.injEq] at hp
        obtain ⟨rfl, rfl⟩ := hp
        obtain ⟨hd, hn, rfl⟩ := hr.sl_inv
        have hB := hl r _ hb
        cases hp : p r with
        | none =>
          unfold BlkOk at hB
          rw [hp] at hB
          obtain ⟨h1, h2, _⟩ := hB
          simp only at h1
          have : n = 0 := by omega
          subst this h1
          rw [h2]; exact .vnil _
        | some g =>
          obtain ⟨us, t, frz, k1, k2, k3, k4, k5⟩ := hB.at hp
          exact .vs _ n cs g 0 (c r) (fun j => us.getD j undef) hn (fun j hj => ⟨by rw [Nat.zero_add]; exact hf r (by simp) _ hb g hp j hj, by rw [Nat.zero_add]; exact cell_at k1 (by simp only at k3; omega)⟩) fun j hj => k4 j hj
  | ptr r off =>
    cases off with
    | succ _ => simp [packC] at hp
    | zero =>
      simp only [packC] at hp
      cases hb : blkOf h r with
      | none => rw [hb] at hp; cases hp
      | some b =>
        obtain ⟨cs, el, fz, pu⟩ := b
        rw [hb] at hp
        cases pu with
        | false => cases hp
        | true =>
          simp only [Option.some.injEq, Prod.mk.injEq] at hp
          obtain ⟨rfl, rfl⟩ := hp
          obtain ⟨g, hd, hp, rfl⟩ := hr.ptr_inv
          obtain ⟨us, t, frz, k1, k2, k3, k4, k5⟩ := (hl r _ hb).at hp
          exact .vp _ cs 0 g 0 (fun j => us.getD j undef) (fun j hj => ⟨by rw [Nat.zero_add]; exact hf r (by simp) _ hb g hp j hj, by rw [Nat.zero_add]; exact cell_at k1 (by simp only at k3; omega)⟩) fun j hj => k4 j hj
  | own e n cs => cases hp
  | agg cs => cases hp
  | tup cs => cases hp
theorem packL_ok {h : Hp} : ∀ {cs cs' : List AV} {us : List Value} {fr : List Nat}, packL h cs = some (cs', fr) → us.length = cs.length → (∀ j (hj : j < cs.length), Rep w p c F D cs[j] (us.getD j undef)) →
    (∀ r b, blkOf h r = some b → BlkOk P w D p c F r b) → (∀ r ∈ fr, ∀ b, blkOf h r = some b → ∀ g, p r = some g → ∀ j, j < b.cells.length → F g j) →
    cs'.length = cs.length ∧ ∀ j (hj : j < cs'.length), Rep w p c F noD cs'[j] (us.getD j undef)
  | [], cs', us, fr, hp, hs, hr, hl, hf => by simp [packL] at hp; obtain ⟨rfl, rfl⟩ := hp; exact ⟨rfl, fun j hj => by simp at hj⟩
  | v :: l, cs', us, fr, hp, hs, hr, hl, hf => by
    unfold packL at hp
    cases h1 : packC h v with
    | none => rw [h1] at hp; cases hp
    | some q =>
      obtain ⟨v', f1⟩ := q
      rw [h1] at hp
      simp only at hp
      cases h2 : packL h l with
      | none => rw [h2] at hp; cases hp
      | some q =>
        obtain ⟨l', f2⟩ := q
        rw [h2] at hp
        simp only [Option.some.injEq, Prod.mk.injEq] at hp
        obtain ⟨rfl, rfl⟩ := hp
        cases us with
        | nil => simp at hs
        | cons u us =>
          obtain ⟨e1, e2⟩ := packL_ok (us := us) h2 (by simpa using hs) (fun j hj => hr (j + 1) (Nat.succ_lt_succ hj)) hl (fun r hr => hf r (List.mem_append_right _ hr))
          refine ⟨by simp [e1], fun j hj => ?_⟩
          cases j with
          | zero => exact packC_ok h1 (hr 0 (Nat.zero_lt_succ _)) hl (fun r hr => hf r (List.mem_append_left _ hr))
          | succ j => exact e2 j (Nat.lt_of_succ_lt_succ hj)
theorem packV_ok {h : Hp} {v v' : AV} {x : Value} {fr : List Nat} (hp : packV h v = some (v', fr)) (hr : Rep w p c F D v x)
    (hl : ∀ r b, blkOf h r = some b → BlkOk P w D p c F r b) (hf : ∀ r ∈ fr, ∀ b, blkOf h r = some b → ∀ g, p r = some g → ∀ j, j < b.cells.length → F g j) : Rep w p c F noD v' x := by
  cases v with
  | agg cs =>
    unfold packV at hp
    dsimp only at hp
    cases h2 : packL h cs with
    | none => rw [h2] at hp; cases hp
    | some q =>
      obtain ⟨l', f2⟩ := q
      rw [h2] at hp
      simp only [Option.some.injEq, Prod.mk.injEq] at hp
      obtain ⟨rfl, rfl⟩ := hp
      obtain ⟨us, rfl, hs, hr⟩ := hr.agg_inv
      obtain ⟨e1, e2⟩ := packL_ok (us := us.toList) h2 (by simpa using hs) (fun j hj => by simpa [List.getD] using hr j hj) hl hf
      exact .agg _ _ us (by omega) fun j hj => by simpa [List.getD] using e2 j hj
  | _ => simp only [packV] at hp; exact packC_ok hp hr hl hf
theorem packVs_ok {h : Hp} : ∀ {cs cs' : List AV} {us : List Value} {fr : List Nat}, packVs h cs = some (cs', fr) → us.length = cs.length → (∀ j (hj : j < cs.length), Rep w p c F D cs[j] (us.getD j undef)) →
    (∀ r b, blkOf h r = some b → BlkOk P w D p c F r b) → (∀ r ∈ fr, ∀ b, blkOf h r = some b → ∀ g, p r = some g → ∀ j, j < b.cells.length → F g j) →
    cs'.length = cs.length ∧ ∀ j (hj : j < cs'.length), Rep w p c F noD cs'[j] (us.getD j undef)
  | [], cs', us, fr, hp, hs, hr, hl, hf => by simp [packVs] at hp; obtain ⟨rfl, rfl⟩ := hp; exact ⟨rfl, fun j hj => by simp at hj⟩
  | v :: l, cs', us, fr, hp, hs, hr, hl, hf => by
    unfold packVs at hp
    cases h1 : packV h v with
    | none => rw [h1] at hp; cases hp
    | some q =>
      obtain ⟨v', f1⟩ := q
      rw [h1] at hp
      simp only at hp
      cases h2 : packVs h l with
      | none => rw [h2] at hp; cases hp
      | some q =>
        obtain ⟨l', f2⟩ := q
        rw [h2] at hp
        simp only [Option.some.injEq, Prod.mk.injEq] at hp
        obtain ⟨rfl, rfl⟩ := hp
        cases us with
        | nil => simp at hs
        | cons u us =>
          obtain ⟨e1, e2⟩ := packVs_ok (us := us) h2 (by simpa using hs) (fun j hj => hr (j + 1) (Nat.succ_lt_succ hj)) hl (fun r hr => hf r (List.mem_append_right _ hr))
          refine ⟨by simp [e1], fun j hj => ?_⟩
          cases j with
          | zero => exact packV_ok h1 (hr 0 (Nat.zero_lt_succ _)) hl (fun r hr => hf r (List.mem_append_left _ hr))
          | succ j => exact e2 j (Nat.lt_of_succ_lt_succ hj)
end

/-! ### calls -/
section
variable (P : Program)
/-- A slice that is handed over: nobody else writes behind its end. -/
def OwnOk (base : Nat) (w : World) (p : Nat → Option Nat) (c : Nat → Nat) (F : Nat → Nat → Prop) (e : TypeId) (n : Nat) (cs : List AV) (x : Value) : Prop :=
  (x = .slice none 0 0 ∧ n = 0 ∧ cs = []) ∨ ∃ (g k : Nat) (us : Array Value) (fr : Nat × Nat), x = .slice (some ⟨g, 0, none⟩) n k ∧ base ≤ g ∧ n ≤ k ∧ k ≤ 9223372036854775807 ∧ w.heap[g]? = some (.cells us e fr) ∧
    us.size ≤ fr.1 + (if fr.1 = fr.2 then us.size else 0) ∧ us.size = k * sizeT P e ∧ cs.length ≤ us.size ∧ (∀ j (h : j < cs.length), Rep w p c F noD cs[j] (us.getD j undef)) ∧ (∀ j, F g j → j < cs.length)
def RepRL (base : Nat) (w : World) (p : Nat → Option Nat) (c : Nat → Nat) (F : Nat → Nat → Prop) : List AV → List Value → Prop
  | [], [] => True
  | .own e n cs :: l, x :: us => OwnOk P base w p c F e n cs x ∧ us.length = l.length ∧ ∀ j (h : j < l.length), Rep w p c F noD l[j] (us.getD j undef)
  | v :: l, x :: us => Rep w p c F noD v x ∧ RepRL base w p c F l us
  | _, _ => False
def RepR (base : Nat) (w : World) (p : Nat → Option Nat) (c : Nat → Nat) (F : Nat → Nat → Prop) : AV → Value → Prop
  | .own e n cs, x => OwnOk P base w p c F e n cs x
  | .tup vs, x => ∃ us : List Value, x = .tuple us.toArray ∧ RepRL P base w p c F vs us
  | v, x => Rep w p c F noD v x
def p0 : Nat → Option Nat := fun _ => none
def c0 : Nat → Nat := fun _ => 0
/-- Function f, called at arguments that are so known, returns what is so known, and turns nothing that was there. -/
def Sound (f : FuncId) (args : List AV) (r : AV) : Prop :=
  (∀ (xs : Array Value) (w : World), (callFunc f xs).run P w = .ok (.enter f xs) w) ∧
  ∀ (w : World) (F : Nat → Nat → Prop) (xs : Array Value), xs.size = args.length → (∀ j (h : j < args.length), Rep w p0 c0 F noD args[j] (xs.getD j undef)) → (∀ g j, F g j → g < w.heap.size) →
    Calls P f xs w fun e w' => ∃ v F', e = .returned v ∧ Below w.heap.size w w' ∧ (∀ g j, F g j → F' g j) ∧ (∀ g j, F' g j → F g j ∨ (w.heap.size ≤ g ∧ g < w'.heap.size)) ∧ RepR P w.heap.size w' p0 c0 F' r v
end
end Go.Proofs.Ytfonmnodjmeigaa.Av
