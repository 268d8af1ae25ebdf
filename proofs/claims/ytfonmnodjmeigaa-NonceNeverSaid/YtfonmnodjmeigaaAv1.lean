/- An abstract machine for functions that compute with values: slices and pointers that are only read stand as the lists of their cells, what a call makes itself stands in a small heap of its own; and how such a state stands for a state of the model. No program's law is stated here. No conditions. -/
import Derived.Calls
import Derived.Orders
import Derived.Below
import Derived.WalkKit
import Derived.ArgAppend
import Derived.Laws.AppendOwn
import Derived.Laws.Cells
import Derived.Laws.NewBlocks
namespace Go.Proofs.Ytfonmnodjmeigaa.Av
open Go Go.RowKit
set_option linter.unusedVariables false
set_option linter.unusedSimpArgs false

/-- A value as far as it is known. ex: just this one. ptr, sl: an address in, a slice of, a block of the call's own. vs, vp, vq: a slice that is only read, an address in something that is only read. own: a slice that is handed over. -/
inductive AV where
  | ex (v : Value)
  | unk
  | ptr (r off : Nat)
  | sl (r n : Nat)
  | vs (n : Nat) (cs : List AV)
  | vp (cs : List AV) (off : Nat)
  | vq (cs : List AV) (off : Nat)
  | own (e : TypeId) (n : Nat) (cs : List AV)
  | agg (cs : List AV)
  | tup (vs : List AV)

/-- A block of the call's own: its first cells, the type of its elements if it is a row, whether it is frozen (it is read elsewhere: no store any more), whether its cells name no block of the call's own. -/
structure ABlk where
  cells : List AV
  el : Option TypeId
  fz : Bool
  pu : Bool
def noD : Nat → Prop := fun _ => False
structure AS where
  slots : List (Nat × AV)
  heap : List (Nat × Option ABlk)
  next : Nat

def look {α : Type} : List (Nat × α) → Nat → Option α
  | [], _ => none
  | (j, v) :: l, i => match Nat.beq j i with
    | true => some v
    | false => look l i
theorem look_cons {α : Type} (j : Nat) (v : α) (l : List (Nat × α)) (i : Nat) : look ((j, v) :: l) i = if j = i then some v else look l i := by
  show (match Nat.beq j i with | true => some v | false => look l i) = _
  by_cases h : j = i
  · subst h; simp
  · have : Nat.beq j i = false := by
      cases hb : Nat.beq j i
      · rfl
      · exact absurd (Nat.eq_of_beq_eq_true hb) h
    rw [this, if_neg h]

def AV.cells : AV → List AV
  | .ex (.agg cs) => cs.toList.map .ex
  | .agg cs => cs
  | v => [v]

/-- What a value is known to be. D: the blocks of the call's own; p: where they lie; c: how much room they have; F: the cells that are never written any more. -/
inductive Rep (w : World) (p : Nat → Option Nat) (c : Nat → Nat) (F : Nat → Nat → Prop) : (Nat → Prop) → AV → Value → Prop where
  | ex (D : Nat → Prop) (v : Value) : Rep w p c F D (.ex v) v
  | unk (D : Nat → Prop) (v : Value) : Rep w p c F D .unk v
  | ptr (D : Nat → Prop) (r off g : Nat) : D r → p r = some g → Rep w p c F D (.ptr r off) (.pointer (some ⟨g, off, none⟩))
  | sl (D : Nat → Prop) (r n : Nat) : D r → n ≤ c r → Rep w p c F D (.sl r n) (.slice ((p r).map fun g => ⟨g, 0, none⟩) n (c r))
  | vnil (D : Nat → Prop) : Rep w p c F D (.vs 0 []) (.slice none 0 0)
  | vs (D : Nat → Prop) (n : Nat) (cs : List AV) (g o k : Nat) (u : Nat → Value) : n ≤ k → (∀ j, j < cs.length → F g (o + j) ∧ w.cell? ⟨g, o + j, none⟩ = some (u j)) →
      (∀ j (h : j < cs.length), Rep w p c F noD cs[j] (u j)) → Rep w p c F D (.vs n cs) (.slice (some ⟨g, o, none⟩) n k)
  | vp (D : Nat → Prop) (cs : List AV) (off g o : Nat) (u : Nat → Value) : (∀ j, j < cs.length → F g (o + j) ∧ w.cell? ⟨g, o + j, none⟩ = some (u j)) →
      (∀ j (h : j < cs.length), Rep w p c F noD cs[j] (u j)) → Rep w p c F D (.vp cs off) (.pointer (some ⟨g, o + off, none⟩))
  | vq (D : Nat → Prop) (cs : List AV) (off g o : Nat) (u : Nat → Value) : (∀ j, j < cs.length → F g (o + j) ∧ w.cell? ⟨g, o + j, none⟩ = some (u j)) →
      (∀ j (h : j < cs.length), Rep w p c F noD cs[j] (u j)) → Rep w p c F D (.vq cs off) (.pointer (some ⟨g, o + off, none⟩))
  | agg (D : Nat → Prop) (cs : List AV) (us : Array Value) : us.size = cs.length → (∀ j (h : j < cs.length), Rep w p c F D cs[j] (us.getD j undef)) → Rep w p c F D (.agg cs) (.agg us)
  | tup (D : Nat → Prop) (cs : List AV) (us : Array Value) : us.size = cs.length → (∀ j (h : j < cs.length), Rep w p c F D cs[j] (us.getD j undef)) → Rep w p c F D (.tup cs) (.tuple us)

/-- What is known stays known. -/
structure Ext (w : World) (D : Nat → Prop) (p : Nat → Option Nat) (c : Nat → Nat) (F : Nat → Nat → Prop)
    (w' : World) (D' : Nat → Prop) (p' : Nat → Option Nat) (c' : Nat → Nat) (F' : Nat → Nat → Prop) : Prop where
  dom : ∀ r, D r → D' r ∧ p' r = p r ∧ c' r = c r
  fr : ∀ g j, F g j → F' g j
  cell : ∀ g j, F g j → w'.cell? ⟨g, j, none⟩ = w.cell? ⟨g, j, none⟩

section
variable {w w' : World} {D D' : Nat → Prop} {p p' : Nat → Option Nat} {c c' : Nat → Nat} {F F' : Nat → Nat → Prop}
theorem Ext.refl : Ext w D p c F w D p c F := ⟨fun r h => ⟨h, rfl, rfl⟩, fun _ _ h => h, fun _ _ _ => rfl⟩
theorem Ext.no : Ext w D p c F w' D' p' c' F' → Ext w noD p c F w' noD p' c' F' := fun e => ⟨fun _ h => h.elim, e.fr, e.cell⟩
theorem Rep.mono {v : AV} {x : Value} (e : Ext w D p c F w' D' p' c' F') (h : Rep w p c F D v x) : Rep w' p' c' F' D' v x := by
  induction h generalizing D' with
  | ex D v => exact .ex _ v
  | unk D v => exact .unk _ v
  | ptr D r off g hd hp =>
    obtain ⟨h1, h2, _⟩ := e.dom r hd
    exact .ptr _ r off g h1 (h2.trans hp)
  | sl D r n hd hn =>
    obtain ⟨h1, h2, h3⟩ := e.dom r hd
    rw [← h2, ← h3]
    exact .sl _ r n h1 (by rw [h3]; exact hn)
  | vnil D => exact .vnil _
  | vs D n cs g o k u hk hc _ ih => exact .vs _ n cs g o k u hk (fun j hj => ⟨e.fr _ _ (hc j hj).1, (e.cell _ _ (hc j hj).1).trans (hc j hj).2⟩) fun j h => ih j h e.no
  | vp D cs off g o u hc _ ih => exact .vp _ cs off g o u (fun j hj => ⟨e.fr _ _ (hc j hj).1, (e.cell _ _ (hc j hj).1).trans (hc j hj).2⟩) fun j h => ih j h e.no
  | vq D cs off g o u hc _ ih => exact .vq _ cs off g o u (fun j hj => ⟨e.fr _ _ (hc j hj).1, (e.cell _ _ (hc j hj).1).trans (hc j hj).2⟩) fun j h => ih j h e.no
  | agg D cs us hs _ ih => exact .agg _ cs us hs fun j h => ih j h e
  | tup D cs us hs _ ih => exact .tup _ cs us hs fun j h => ih j h e
theorem Rep.of_no {v : AV} {x : Value} (h : Rep w p c F noD v x) : Rep w p' c' F D v x := h.mono ⟨fun _ h => h.elim, fun _ _ h => h, fun _ _ _ => rfl⟩
/-- The cells of a value that is known. -/
theorem Rep.cells {v : AV} {x : Value} (h : Rep w p c F D v x) (hu : v ≠ .unk) : x.cells.size = v.cells.length ∧ ∀ j (hj : j < v.cells.length), Rep w p c F D v.cells[j] (x.cells.getD j undef) := by
  have one : ∀ (v : AV) (x : Value), v.cells = [v] → x.cells = #[x] → Rep w p c F D v x → x.cells.size = v.cells.length ∧ ∀ j (hj : j < v.cells.length), Rep w p c F D v.cells[j] (x.cells.getD j undef) := by
    intro v x hv hx h
    refine ⟨by rw [hv, hx]; rfl, fun j hj => ?_⟩
    have hj0 : j = 0 := by rw [hv] at hj; simpa using hj
    subst hj0
    have e1 : v.cells[0] = v := by simp [hv]
    have e2 : x.cells.getD 0 undef = x := by simp [hx]
    rw [e1, e2]; exact h
  cases h with
  | ex D =>
    cases x with
    | agg cs =>
      refine ⟨by simp [AV.cells, Value.cells], fun j hj => ?_⟩
      have hj' : j < cs.size := by simpa [AV.cells] using hj
      have : (AV.cells (.ex (.agg cs)))[j] = .ex (cs.getD j undef) := by simp [AV.cells, hj']
      rw [this]; exact .ex _ _
    | _ => exact one _ _ rfl rfl (.ex _ _)
  | unk D => exact absurd rfl hu
  | ptr D r off g hd hp => exact one _ _ rfl rfl (.ptr _ r off g hd hp)
  | sl D r n hd hn => exact one _ _ rfl rfl (.sl _ r n hd hn)
  | vnil D => exact one _ _ rfl rfl (.vnil _)
  | vs D n cs g o k u hk hc hr => exact one _ _ rfl rfl (.vs _ n cs g o k u hk hc hr)
  | vp D cs off g o u hc hr => exact one _ _ rfl rfl (.vp _ cs off g o u hc hr)
  | vq D cs off g o u hc hr => exact one _ _ rfl rfl (.vq _ cs off g o u hc hr)
  | agg D cs us hs hr => exact ⟨by simpa [AV.cells, Value.cells] using hs, fun j hj => hr j hj⟩
  | tup D cs us hs hr => exact one _ _ rfl rfl (.tup _ cs us hs hr)
end

section
variable (P : Program)
def sizeT (t : TypeId) : Nat := match P.info? t with
  | some i => i.size
  | none => 0
def isAggT (t : TypeId) : Bool := match P.underlying t with
  | some (.struct _) => true
  | some (.array _ _) => true
  | _ => false
def zeroT (t : TypeId) : Option Value := match P.info? t with
  | some i => i.zero
  | none => none

/-- What is known of a block of the call's own. -/
def BlkOk (w : World) (D : Nat → Prop) (p : Nat → Option Nat) (c : Nat → Nat) (F : Nat → Nat → Prop) (r : Nat) (b : ABlk) : Prop :=
  match p r with
  | none => b.cells = [] ∧ c r = 0 ∧ b.el ≠ none
  | some g => ∃ (us : Array Value) (t : TypeId) (fr : Nat × Nat), w.heap[g]? = some (.cells us t fr) ∧ us.size ≤ fr.1 + (if fr.1 = fr.2 then us.size else 0) ∧ b.cells.length ≤ us.size ∧
      (∀ j (h : j < b.cells.length), Rep w p c F (if b.pu then noD else D) b.cells[j] (us.getD j undef)) ∧
      (∀ e, b.el = some e → t = e ∧ us.size = c r * sizeT P e ∧ c r ≤ 9223372036854775807)

/-- How a state of the abstract machine stands for a state of the model; w0: the world when the call began; F0: the cells that nobody writes. -/
structure Rel (w0 : World) (F0 : Nat → Nat → Prop) (m : Nat) (D : Nat → Prop) (p : Nat → Option Nat) (c : Nat → Nat) (F : Nat → Nat → Prop)
    (slots : List (Nat × AV)) (heap : List (Nat × Option ABlk)) (a : Act) (w : World) : Prop where
  slots : ∀ t v, look slots t = some v → Rep w p c F D v (a.tmps.getD t undef)
  size : a.tmps.size = m
  defers : a.defers = []
  live : ∀ r b, look heap r = some (some b) → D r ∧ BlkOk P w D p c F r b
  inj : ∀ r r' b b' g, look heap r = some (some b) → look heap r' = some (some b') → p r = some g → p r' = some g → r = r'
  own : ∀ r b g, look heap r = some (some b) → p r = some g → w0.heap.size ≤ g
  fr : ∀ g j, F g j → g < w.heap.size ∧ (F0 g j ∨ w0.heap.size ≤ g)
  fz : ∀ r b g j, look heap r = some (some b) → p r = some g → F g j → b.fz = true ∧ j < b.cells.length
  sub : ∀ g j, F0 g j → F g j
  f0 : ∀ g j, F0 g j → g < w0.heap.size
  below : Below w0.heap.size w0 w
end
section
variable {P : Program} {w w' w0 : World} {D D' : Nat → Prop} {p p' : Nat → Option Nat} {c c' : Nat → Nat} {F F' F0 : Nat → Nat → Prop} {m : Nat}
  {slots : List (Nat × AV)} {heap : List (Nat × Option ABlk)} {a : Act}
theorem BlkOk.mono {r : Nat} {b : ABlk} (h : BlkOk P w D p c F r b) (hd : D r) (e : Ext w D p c F w' D' p' c' F') (hh : ∀ g, p r = some g → w'.heap[g]? = w.heap[g]?) : BlkOk P w' D' p' c' F' r b := by
  obtain ⟨_, h2, h3⟩ := e.dom r hd
  unfold BlkOk at *
  rw [h2]
  cases hp : p r with
  | none => rw [hp] at h; simp only at h ⊢; rw [h3]; exact h
  | some g =>
    rw [hp] at h
    obtain ⟨us, t, fr, k1, k2, k3, k4, k5⟩ := h
    exact ⟨us, t, fr, by rw [hh g hp]; exact k1, k2, k3, fun j hj => (k4 j hj).mono (by cases b.pu; exact e; exact e.no), fun e' he => by rw [h3]; exact k5 e' he⟩
theorem BlkOk.lt {r g : Nat} {b : ABlk} (h : BlkOk P w D p c F r b) (hp : p r = some g) : g < w.heap.size := by
  unfold BlkOk at h
  rw [hp] at h
  obtain ⟨us, t, fr, k1, _⟩ := h
  apply Classical.byContradiction
  intro hn
  rw [Array.getElem?_eq_none (by omega)] at k1
  cases k1
theorem Rel.upd (h : Rel P w0 F0 m D p c F slots heap a w) (e : Ext w D p c F w' D' p' c' F') {heap' : List (Nat × Option ABlk)}
    (live : ∀ r b, look heap' r = some (some b) → D' r ∧ BlkOk P w' D' p' c' F' r b)
    (inj : ∀ r r' b b' g, look heap' r = some (some b) → look heap' r' = some (some b') → p' r = some g → p' r' = some g → r = r')
    (own : ∀ r b g, look heap' r = some (some b) → p' r = some g → w0.heap.size ≤ g)
    (fr : ∀ g j, F' g j → g < w'.heap.size ∧ (F0 g j ∨ w0.heap.size ≤ g))
    (fz : ∀ r b g j, look heap' r = some (some b) → p' r = some g → F' g j → b.fz = true ∧ j < b.cells.length)
    (below : Below w0.heap.size w0 w') : Rel P w0 F0 m D' p' c' F' slots heap' a w' :=
  ⟨fun t v ht => (h.slots t v ht).mono e, h.size, h.defers, live, inj, own, fr, fz, fun g j hj => e.fr _ _ (h.sub g j hj), h.f0, below⟩
theorem Rel.ext_below (h : Rel P w0 F0 m D p c F slots heap a w) (hb : Below w.heap.size w w') : Ext w D p c F w' D p c F :=
  ⟨fun r hr => ⟨hr, rfl, rfl⟩, fun _ _ h => h, fun g j hj => World.cell?_of_block (w := w) (a := ⟨g, j, none⟩) (hb.block g (h.fr g j hj).1)⟩
/-- The world grows; nothing that was there turns. -/
theorem Rel.world (h : Rel P w0 F0 m D p c F slots heap a w) (hb : Below w.heap.size w w') : Rel P w0 F0 m D p c F slots heap a w' :=
  h.upd (h.ext_below hb) (fun r b hr => ⟨(h.live r b hr).1, (h.live r b hr).2.mono (h.live r b hr).1 (h.ext_below hb) fun g hg => hb.block g ((h.live r b hr).2.lt hg)⟩)
    h.inj h.own (fun g j hj => ⟨Nat.lt_of_lt_of_le (h.fr g j hj).1 hb.size, (h.fr g j hj).2⟩) h.fz (h.below.trans (hb.mono h.below.size))
theorem Rel.put (h : Rel P w0 F0 m D p c F slots heap a w) {v : AV} {x : Value} (hr : Rep w p c F D v x) {d : Nat} (hd : d < m) :
    Rel P w0 F0 m D p c F ((d, v) :: slots) heap (a.put (some d) x) w := by
  refine ⟨fun t u ht => ?_, ?_, h.defers, h.live, h.inj, h.own, h.fr, h.fz, h.sub, h.f0, h.below⟩
  · rw [look_cons] at ht
    by_cases e : d = t
    · subst e
      rw [if_pos rfl] at ht; injection ht with ht; subst ht
      have : (a.put (some d) x).tmps.getD d undef = x := by
        simp [Act.put, h.size, hd]
      rw [this]; exact hr
    · rw [if_neg e] at ht
      have : (a.put (some d) x).tmps.getD t undef = a.tmps.getD t undef := by
        simp [Act.put, Array.getElem?_setIfInBounds, e]
      rw [this]; exact h.slots t u ht
  · simp [Act.put, h.size]
theorem Rel.put_none (h : Rel P w0 F0 m D p c F slots heap a w) (x : Value) : Rel P w0 F0 m D p c F slots heap (a.put none x) w := h
/-- Less is known. -/
theorem Rel.weaken (h : Rel P w0 F0 m D p c F slots heap a w) {slots' : List (Nat × AV)} {heap' : List (Nat × Option ABlk)}
    (hs : ∀ t v, look slots' t = some v → v = .unk ∨ look slots t = some v) (hh : ∀ r b, look heap' r = some (some b) → look heap r = some (some b)) : Rel P w0 F0 m D p c F slots' heap' a w :=
  ⟨fun t v ht => by
    rcases hs t v ht with rfl | h'
    · exact .unk _ _
    · exact h.slots t v h', h.size, h.defers, fun r b hr => h.live r b (hh r b hr), fun r r' b b' g h1 h2 => h.inj r r' b b' g (hh _ _ h1) (hh _ _ h2),
    fun r b g h1 => h.own r b g (hh _ _ h1), h.fr, fun r b g j h1 => h.fz r b g j (hh _ _ h1), h.sub, h.f0, h.below⟩

/-- A new block. -/
def setAt {α : Type} (f : Nat → α) (r : Nat) (x : α) : Nat → α := fun i => if i = r then x else f i
theorem setAt_same {α : Type} (f : Nat → α) (r : Nat) (x : α) : setAt f r x r = x := by simp [setAt]
theorem setAt_ne {α : Type} (f : Nat → α) {r i : Nat} (x : α) (h : i ≠ r) : setAt f r x i = f i := by simp [setAt, h]
def addD (D : Nat → Prop) (r : Nat) : Nat → Prop := fun i => D i ∨ i = r

/-- a block that lies behind all that was there becomes one of the call's own. -/
theorem Rel.new (h : Rel P w0 F0 m D p c F slots heap a w) (hb : Below w.heap.size w w') {r g k : Nat} {b : ABlk} (hr : ¬ D r) (hg : w.heap.size ≤ g) (hgw : g < w'.heap.size)
    (hF : ∀ g j, F g j → F' g j) (hF2 : ∀ g' j, F' g' j → F g' j ∨ (w.heap.size ≤ g' ∧ g' < w'.heap.size)) (hF3 : ∀ j, F' g j → b.fz = true ∧ j < b.cells.length)
    (hB : BlkOk P w' (addD D r) (setAt p r (some g)) (setAt c r k) F' r b) : Rel P w0 F0 m (addD D r) (setAt p r (some g)) (setAt c r k) F' slots ((r, some b) :: heap) a w' := by
  have hne : ∀ i, D i → i ≠ r := fun i hi e => hr (e ▸ hi)
  have e : Ext w D p c F w' (addD D r) (setAt p r (some g)) (setAt c r k) F' :=
    ⟨fun i hi => ⟨.inl hi, setAt_ne p _ (hne i hi), setAt_ne c _ (hne i hi)⟩, hF, (h.ext_below hb).cell⟩
  have hold : ∀ i b' g', look heap i = some (some b') → setAt p r (some g) i = some g' → i ≠ r ∧ p i = some g' ∧ g' < w.heap.size := by
    intro i b' g' hi hp'
    have hi' := h.live i b' hi
    have hn := hne i hi'.1
    rw [setAt_ne p _ hn] at hp'
    exact ⟨hn, hp', hi'.2.lt hp'⟩
  refine h.upd e ?_ ?_ ?_ ?_ ?_ (h.below.trans (hb.mono h.below.size))
  · intro i b' hi
    rw [look_cons] at hi
    by_cases hir : r = i
    · subst hir; rw [if_pos rfl] at hi; injection hi with hi; injection hi with hi; subst hi
      exact ⟨.inr rfl, hB⟩
    · rw [if_neg hir] at hi
      have hi' := h.live i b' hi
      exact ⟨.inl hi'.1, hi'.2.mono hi'.1 e fun g' hg' => hb.block g' (hi'.2.lt hg')⟩
  · intro i i' b1 b2 g' h1 h2 p1 p2
    rw [look_cons] at h1 h2
    by_cases e1 : r = i
    · by_cases e2 : r = i'
      · rw [← e1, ← e2]
      · subst e1
        rw [if_neg e2] at h2
        obtain ⟨_, _, hlt⟩ := hold i' b2 g' h2 p2
        rw [setAt_same] at p1; injection p1 with p1; omega
    · by_cases e2 : r = i'
      · subst e2
        rw [if_neg e1] at h1
        obtain ⟨_, _, hlt⟩ := hold i b1 g' h1 p1
        rw [setAt_same] at p2; injection p2 with p2; omega
      · rw [if_neg e1] at h1
        rw [if_neg e2] at h2
        obtain ⟨_, q1, _⟩ := hold i b1 g' h1 p1
        obtain ⟨_, q2, _⟩ := hold i' b2 g' h2 p2
        exact h.inj i i' b1 b2 g' h1 h2 q1 q2
  · intro i b' g' hi hp'
    rw [look_cons] at hi
    by_cases hir : r = i
    · subst hir; rw [setAt_same] at hp'; injection hp' with hp'; have := h.below.size; omega
    · rw [if_neg hir] at hi
      obtain ⟨_, q, _⟩ := hold i b' g' hi hp'
      exact h.own i b' g' hi q
  · intro g' j hj
    rcases hF2 g' j hj with h1 | ⟨h1, h2⟩
    · exact ⟨Nat.lt_of_lt_of_le (h.fr g' j h1).1 hb.size, (h.fr g' j h1).2⟩
    · exact ⟨h2, .inr (Nat.le_trans h.below.size h1)⟩
  · intro i b' g' j hi hp' hj
    rw [look_cons] at hi
    by_cases hir : r = i
    · subst hir; rw [if_pos rfl] at hi; injection hi with hi; injection hi with hi; subst hi
      rw [setAt_same] at hp'; injection hp' with hp'; subst hp'
      exact hF3 j hj
    · rw [if_neg hir] at hi
      obtain ⟨_, q, hlt⟩ := hold i b' g' hi hp'
      rcases hF2 g' j hj with h1 | ⟨h1, _⟩
      · exact h.fz i b' g' j hi q h1
      · omega
/-- the cells of a block that was made at once. -/
theorem Rep.more {v : AV} {x : Value} (h : Rep w p c F D v x) {r : Nat} (hr : ¬ D r) (q : Option Nat) (k : Nat) : Rep w (setAt p r q) (setAt c r k) F (addD D r) v x :=
  h.mono ⟨fun i hi => ⟨.inl hi, setAt_ne p _ fun e => hr (e ▸ hi), setAt_ne c _ fun e => hr (e ▸ hi)⟩, fun _ _ h => h, fun _ _ _ => rfl⟩
end
end Go.Proofs.Ytfonmnodjmeigaa.Av
