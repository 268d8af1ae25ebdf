/- What the claim stands on, Pl3: contracts of functions and plain facts. No conditions. -/
import Derived.Calls
import Derived.Orders
import Derived.Below
import Derived.WalkKit
import Derived.ArgAppend
import Derived.Laws.AppendOwn
import Derived.Laws.Cells
import Derived.Laws.NewBlocks
import Derived.Test.YtbaedepmogkkeaaGreatPl1
import Derived.IntWalk
import Derived.Laws.IdiomStrings
import Derived.Laws.BytesArg
import Derived.Laws.StructEq
import Derived.ChangeKeysEq
namespace Go.Proofs.YtbaedepmogkkeaaGreat.Av
open Go Go.RowKit
set_option linter.unusedVariables false
set_option linter.unusedSimpArgs false
section
structure Ob where
 fp : World → Nat → Nat → Prop
 K : World → Nat → Prop
 law : ∀ w w' g, K w g → w'.heap[g]? = w.heap[g]? → (∀ x, fp w g x → w'.heap[x]? = w.heap[x]?) → K w' g ∧ ∀ x, fp w' g x ↔ fp w g x
 nd : ∀ w g x d, K w g → fp w g x → w.heap[x]? ≠ some (.deferred d)
inductive AV where
 | ex (v : Value)
 | unk
 | ob (K : Ob)
 | ptr (r off : Nat)
 | sl (r n : Nat)
 | vs (n : Nat) (cs : List AV)
 | vf (n : Nat) (cs : List AV)
 | clo (f : FuncId) (cs : List AV)
 | bm (f : FuncId) (r : Nat)
 | pt (b : Bool) (cs : List AV)
 | vp (cs : List AV) (off : Nat)
 | vq (cs : List AV) (off : Nat)
 | own (e : TypeId) (n : Nat) (cs : List AV)
 | agg (cs : List AV)
 | tup (vs : List AV)
structure ABlk where
 cells : List AV
 el : Option TypeId
 fz : Bool
 pu : Bool
def noD : Nat → Prop := fun _ => False
structure AS where
 slots : List (Nat × AV)
 heap : List (Nat × Option ABlk)
 next : Nat
def look {α : Type} : List (Nat × α) → Nat → Option α
 | [], _ => none
 | (j, v) :: l, i => match Nat.beq j i with
  | true => some v
  | false => look l i
theorem look_cons {α : Type} (j : Nat) (v : α) (l : List (Nat × α)) (i : Nat) : look ((j, v) :: l) i = if j = i then some v else look l i := by
 show (match Nat.beq j i with | true => some v | false => look l i) = _
 by_cases h : j = i
 ·subst h; simp
 ·have : Nat.beq j i = false := by
   cases hb : Nat.beq j i
   ·rfl
   ·exact absurd (Nat.eq_of_beq_eq_true hb) h
  rw [this, if_neg h]
def AV.cells : AV → List AV
 | .ex (.agg cs) => cs.toList.map .ex
 | .agg cs => cs
 | v => [v]
inductive Rep (w : World) (p : Nat → Option Nat) (c : Nat → Nat) (F : Nat → Nat → Prop) : (Nat → Prop) → AV → Value → Prop where
 | ex (D : Nat → Prop) (v : Value) : Rep w p c F D (.ex v) v
 | unk (D : Nat → Prop) (v : Value) : Rep w p c F D .unk v
 | ob (D : Nat → Prop) (K : Ob) (v : Value) : Rep w p c F D (.ob K) v
 | ptr (D : Nat → Prop) (r off g : Nat) : D r → p r = some g → Rep w p c F D (.ptr r off) (.pointer (some ⟨g, off, none⟩))
 | sl (D : Nat → Prop) (r n : Nat) : D r → n ≤ c r → Rep w p c F D (.sl r n) (.slice ((p r).map fun g => ⟨g, 0, none⟩) n (c r))
 | vnil {a : Option Addr} (D : Nat → Prop) : Rep w p c F D (.vs 0 []) (.slice a 0 0)
 | vs (D : Nat → Prop) (n : Nat) (cs : List AV) (g o k : Nat) (u : Nat → Value) : n ≤ k → (∀ j, j < cs.length → F g (o + j) ∧ w.cell? ⟨g, o + j, none⟩ = some (u j)) →
   (∀ j (h : j < cs.length), Rep w p c F noD cs[j] (u j)) → Rep w p c F D (.vs n cs) (.slice (some ⟨g, o, none⟩) n k)
 | fnil {a : Option Addr} (D : Nat → Prop) : Rep w p c F D (.vf 0 []) (.slice a 0 0)
 | vf (D : Nat → Prop) (n : Nat) (cs : List AV) (g o : Nat) (u : Nat → Value) : (∀ j, j < cs.length → F g (o + j) ∧ w.cell? ⟨g, o + j, none⟩ = some (u j)) →
   (∀ j (h : j < cs.length), Rep w p c F noD cs[j] (u j)) → Rep w p c F D (.vf n cs) (.slice (some ⟨g, o, none⟩) n n)
 | clo (D : Nat → Prop) (f : FuncId) (cs : List AV) (us : Array Value) : us.size = cs.length → (∀ j (h : j < cs.length), Rep w p c F noD cs[j] (us.getD j undef)) → Rep w p c F D (.clo f cs) (.func (.func f) #[] us)
 | bm (D : Nat → Prop) (f : FuncId) (r g : Nat) : D r → p r = some g → Rep w p c F D (.bm f r) (.func (.func f) #[.pointer (some ⟨g, 0, none⟩)] #[])
 | pt0 (D : Nat → Prop) (cs : List AV) : Rep w p c F D (.pt false cs) (.pointer none)
 | pt1 (D : Nat → Prop) (cs : List AV) (g o : Nat) (u : Nat → Value) : (∀ j, j < cs.length → F g (o + j) ∧ w.cell? ⟨g, o + j, none⟩ = some (u j)) →
   (∀ j (h : j < cs.length), Rep w p c F noD cs[j] (u j)) → Rep w p c F D (.pt true cs) (.pointer (some ⟨g, o, none⟩))
 | vp (D : Nat → Prop) (cs : List AV) (off g o : Nat) (u : Nat → Value) : (∀ j, j < cs.length → F g (o + j) ∧ w.cell? ⟨g, o + j, none⟩ = some (u j)) →
   (∀ j (h : j < cs.length), Rep w p c F noD cs[j] (u j)) → Rep w p c F D (.vp cs off) (.pointer (some ⟨g, o + off, none⟩))
 | vq (D : Nat → Prop) (cs : List AV) (off g o : Nat) (u : Nat → Value) : (∀ j, j < cs.length → F g (o + j) ∧ w.cell? ⟨g, o + j, none⟩ = some (u j)) →
   (∀ j (h : j < cs.length), Rep w p c F noD cs[j] (u j)) → Rep w p c F D (.vq cs off) (.pointer (some ⟨g, o + off, none⟩))
 | agg (D : Nat → Prop) (cs : List AV) (us : Array Value) : us.size = cs.length → (∀ j (h : j < cs.length), Rep w p c F D cs[j] (us.getD j undef)) → Rep w p c F D (.agg cs) (.agg us)
 | tup (D : Nat → Prop) (cs : List AV) (us : Array Value) : us.size = cs.length → (∀ j (h : j < cs.length), Rep w p c F D cs[j] (us.getD j undef)) → Rep w p c F D (.tup cs) (.tuple us)
structure Ext (w : World) (D : Nat → Prop) (p : Nat → Option Nat) (c : Nat → Nat) (F : Nat → Nat → Prop)
  (w' : World) (D' : Nat → Prop) (p' : Nat → Option Nat) (c' : Nat → Nat) (F' : Nat → Nat → Prop) : Prop where
 dom : ∀ r, D r → D' r ∧ p' r = p r ∧ c' r = c r
 fr : ∀ g j, F g j → F' g j
 cell : ∀ g j, F g j → w'.cell? ⟨g, j, none⟩ = w.cell? ⟨g, j, none⟩
section
variable {w w' : World} {D D' : Nat → Prop} {p p' : Nat → Option Nat} {c c' : Nat → Nat} {F F' : Nat → Nat → Prop}
theorem Ext.refl : Ext w D p c F w D p c F := ⟨fun r h => ⟨h, rfl, rfl⟩, fun _ _ h => h, fun _ _ _ => rfl⟩
theorem Ext.no : Ext w D p c F w' D' p' c' F' → Ext w noD p c F w' noD p' c' F' := fun e => ⟨fun _ h => h.elim, e.fr, e.cell⟩
theorem Rep.mono {v : AV} {x : Value} (e : Ext w D p c F w' D' p' c' F') (h : Rep w p c F D v x) : Rep w' p' c' F' D' v x := by
 induction h generalizing D' with
 | ex D v => exact .ex _ v
 | unk D v => exact .unk _ v
 | ob D K v => exact .ob _ K v
 | ptr D r off g hd hp =>
  obtain ⟨h1, h2, _⟩ := e.dom r hd
  exact .ptr _ r off g h1 (h2.trans hp)
 | sl D r n hd hn =>
  obtain ⟨h1, h2, h3⟩ := e.dom r hd
  rw [← h2, ← h3]
  exact .sl _ r n h1 (by rw [h3]; exact hn)
 | vnil D => exact .vnil _
 | vs D n cs g o k u hk hc _ ih => exact .vs _ n cs g o k u hk (fun j hj => ⟨e.fr _ _ (hc j hj).1, (e.cell _ _ (hc j hj).1).trans (hc j hj).2⟩) fun j h => ih j h e.no
 | fnil D => exact .fnil _
 | vf D n cs g o u hc _ ih => exact .vf _ n cs g o u (fun j hj => ⟨e.fr _ _ (hc j hj).1, (e.cell _ _ (hc j hj).1).trans (hc j hj).2⟩) fun j h => ih j h e.no
 | clo D f cs us hs _ ih => exact .clo _ f cs us hs fun j h => ih j h e.no
 | bm D f r g hd hp =>
  obtain ⟨h1, h2, _⟩ := e.dom r hd
  exact .bm _ f r g h1 (h2.trans hp)
 | pt0 D cs => exact .pt0 _ cs
 | pt1 D cs g o u hc _ ih => exact .pt1 _ cs g o u (fun j hj => ⟨e.fr _ _ (hc j hj).1, (e.cell _ _ (hc j hj).1).trans (hc j hj).2⟩) fun j h => ih j h e.no
 | vp D cs off g o u hc _ ih => exact .vp _ cs off g o u (fun j hj => ⟨e.fr _ _ (hc j hj).1, (e.cell _ _ (hc j hj).1).trans (hc j hj).2⟩) fun j h => ih j h e.no
 | vq D cs off g o u hc _ ih => exact .vq _ cs off g o u (fun j hj => ⟨e.fr _ _ (hc j hj).1, (e.cell _ _ (hc j hj).1).trans (hc j hj).2⟩) fun j h => ih j h e.no
 | agg D cs us hs _ ih => exact .agg _ cs us hs fun j h => ih j h e
 | tup D cs us hs _ ih => exact .tup _ cs us hs fun j h => ih j h e
theorem Rep.of_no {v : AV} {x : Value} (h : Rep w p c F noD v x) : Rep w p' c' F D v x := h.mono ⟨fun _ h => h.elim, fun _ _ h => h, fun _ _ _ => rfl⟩
theorem Rep.cells {v : AV} {x : Value} (h : Rep w p c F D v x) (hu : v ≠ .unk) (hu2 : ∀ K, v ≠ .ob K) : x.cells.size = v.cells.length ∧ ∀ j (hj : j < v.cells.length), Rep w p c F D v.cells[j] (x.cells.getD j undef) := by
 have one : ∀ (v : AV) (x : Value), v.cells = [v] → x.cells = #[x] → Rep w p c F D v x → x.cells.size = v.cells.length ∧ ∀ j (hj : j < v.cells.length), Rep w p c F D v.cells[j] (x.cells.getD j undef) := by
  intro v x hv hx h
  refine ⟨by rw [hv, hx]; rfl, fun j hj => ?_⟩
  have hj0 : j = 0 := by rw [hv] at hj; simpa using hj
  subst hj0
  have e1 : v.cells[0] = v := by simp [hv]
  have e2 : x.cells.getD 0 undef = x := by simp [hx]
  rw [e1, e2]; exact h
 cases h with
 | ex D =>
  cases x with
  | agg cs =>
   refine ⟨by simp [AV.cells, Value.cells], fun j hj => ?_⟩
   have hj' : j < cs.size := by simpa [AV.cells] using hj
   have : (AV.cells (.ex (.agg cs)))[j] = .ex (cs.getD j undef) := by simp [AV.cells, hj']
   rw [this]; exact .ex _ _
  | _ => exact one _ _ rfl rfl (.ex _ _)
 | unk D => exact absurd rfl hu
 | ob D K => exact absurd rfl (hu2 K)
 | ptr D r off g hd hp => exact one _ _ rfl rfl (.ptr _ r off g hd hp)
 | sl D r n hd hn => exact one _ _ rfl rfl (.sl _ r n hd hn)
 | vnil D => exact one _ _ rfl rfl (.vnil _)
 | vs D n cs g o k u hk hc hr => exact one _ _ rfl rfl (.vs _ n cs g o k u hk hc hr)
 | fnil D => exact one _ _ rfl rfl (.fnil _)
 | vf D n cs g o u hc hr => exact one _ _ rfl rfl (.vf _ n cs g o u hc hr)
 | clo D f cs us hs hr => exact one _ _ rfl rfl (.clo _ f cs us hs hr)
 | bm D f r g hd hp => exact one _ _ rfl rfl (.bm _ f r g hd hp)
 | pt0 D cs => exact one _ _ rfl rfl (.pt0 _ cs)
 | pt1 D cs g o u hc hr => exact one _ _ rfl rfl (.pt1 _ cs g o u hc hr)
 | vp D cs off g o u hc hr => exact one _ _ rfl rfl (.vp _ cs off g o u hc hr)
 | vq D cs off g o u hc hr => exact one _ _ rfl rfl (.vq _ cs off g o u hc hr)
 | agg D cs us hs hr => exact ⟨by simpa [AV.cells, Value.cells] using hs, fun j hj => hr j hj⟩
 | tup D cs us hs hr => exact one _ _ rfl rfl (.tup _ cs us hs hr)
end
section
variable (P : Program)
def sizeT (t : TypeId) : Nat := match P.info? t with
 | some i => i.size
 | none => 0
def zeroT (t : TypeId) : Option Value := match P.info? t with
 | some i => i.zero
 | none => none
def BlkOk (w : World) (D : Nat → Prop) (p : Nat → Option Nat) (c : Nat → Nat) (F : Nat → Nat → Prop) (r : Nat) (b : ABlk) : Prop :=
 match p r with
 | none => b.cells = [] ∧ c r = 0 ∧ b.el ≠ none
 | some g => ∃ (us : Array Value) (t : TypeId) (fr : Nat × Nat), w.heap[g]? = some (.cells us t fr) ∧ us.size ≤ fr.1 + (if fr.1 = fr.2 then us.size else 0) ∧ b.cells.length ≤ us.size ∧
   (∀ j (h : j < b.cells.length), Rep w p c F (if b.pu then noD else D) b.cells[j] (us.getD j undef)) ∧
   (∀ e, b.el = some e → t = e ∧ us.size = c r * sizeT P e ∧ c r ≤ 9223372036854775807)
structure Ori where
 w : World
 M : Nat → Prop
 gh : Array Value
 ds : List Deferred
def Ori.mine (o : Ori) (g : Nat) : Prop := o.w.heap.size ≤ g ∨ o.M g
structure Fr where
 n : Nat
 keep : Nat
structure Held (o : Ori) (w : World) : Prop where
 os : w.os = o.w.os
 tape : w.tape = o.w.tape
 output : w.output = o.w.output
 size : o.w.heap.size ≤ w.heap.size
 block : ∀ k, ¬ o.mine k → w.heap[k]? = o.w.heap[k]?
theorem Held.refl (o : Ori) : Held o o.w := ⟨rfl, rfl, rfl, Nat.le_refl _, fun _ _ => rfl⟩
theorem Held.grow {o : Ori} {w w' : World} (h : Held o w) (hb : Below w.heap.size w w') : Held o w' :=
 ⟨hb.os.trans h.os, hb.tape.trans h.tape, hb.output.trans h.output, Nat.le_trans h.size hb.size, fun k hk => (hb.block k (Nat.lt_of_lt_of_le (Nat.lt_of_not_le fun e => hk (.inl e)) h.size)).trans (h.block k hk)⟩
theorem Held.mine_of {o : Ori} {w : World} (h : Held o w) {g : Nat} (hg : w.heap.size ≤ g) : o.mine g := .inl (Nat.le_trans h.size hg)
def isOb : ABlk → Option Ob
 | ⟨[.ob K], none, false, true⟩ => some K
 | _ => none
theorem isOb_fz {b : ABlk} (h : b.fz = true) : isOb b = none := by
 obtain ⟨cs, el, fz, pu⟩ := b
 cases h
 unfold isOb
 split
 ·rename_i e; cases e
 ·rfl
theorem isOb_el {b : ABlk} (h : b.el ≠ none) : isOb b = none := by
 obtain ⟨cs, el, fz, pu⟩ := b
 unfold isOb
 split
 ·rename_i e; cases e; exact absurd rfl h
 ·rfl
theorem isOb_pu {b : ABlk} (h : b.pu = false) : isOb b = none := by
 obtain ⟨cs, el, fz, pu⟩ := b
 cases h
 unfold isOb
 split
 ·rename_i e; cases e
 ·rfl
theorem isOb_spec {b : ABlk} {K : Ob} (h : isOb b = some K) : b = ⟨[.ob K], none, false, true⟩ := by
 unfold isOb at h
 split at h
 ·injection h with h; subst h; rfl
 ·cases h
theorem isOb_no {cs : List AV} {el : Option TypeId} {fz pu : Bool} (h : ∀ K, cs ≠ [.ob K]) : isOb ⟨cs, el, fz, pu⟩ = none := by
 cases e : isOb ⟨cs, el, fz, pu⟩ with
 | none => rfl
 | some K => have := isOb_spec e; injection this with h1; exact absurd h1 (h K)
def foot (w : World) (b : ABlk) (g x : Nat) : Prop := x = g ∨ ∃ K, isOb b = some K ∧ K.fp w g x
def ObOk (mine : Nat → Prop) (w : World) (p : Nat → Option Nat) (F : Nat → Nat → Prop) (heap : List (Nat × Option ABlk)) : Prop :=
 ∀ r b K g, look heap r = some (some b) → isOb b = some K → p r = some g →
  K.K w g ∧ ∀ x, K.fp w g x → mine x ∧ x < w.heap.size ∧ (∀ j, ¬ F x j) ∧ ∀ r' b' g', look heap r' = some (some b') → p r' = some g' → r' ≠ r → ¬ foot w b' g' x
theorem ObOk.step {mine mine' : Nat → Prop} {w w' : World} {p p' : Nat → Option Nat} {F F' : Nat → Nat → Prop} {heap heap' : List (Nat × Option ABlk)} (h : ObOk mine w p F heap)
  (hold : ∀ r b K, look heap' r = some (some b) → isOb b = some K → look heap r = some (some b) ∧ p' r = p r)
  (hloc : ∀ r b g, look heap' r = some (some b) → p' r = some g → isOb b = none → w.heap.size ≤ g ∨ ∃ r0 b0, look heap r0 = some (some b0) ∧ p r0 = some g)
  (hw : ∀ r b K g, look heap' r = some (some b) → isOb b = some K → p' r = some g → w'.heap[g]? = w.heap[g]? ∧ ∀ x, K.fp w g x → w'.heap[x]? = w.heap[x]?)
  (hF : ∀ g j, F' g j → F g j ∨ w.heap.size ≤ g ∨ ∃ r0 b0, look heap r0 = some (some b0) ∧ isOb b0 = none ∧ p r0 = some g)
  (hm : ∀ x, mine x → mine' x) (hs : w.heap.size ≤ w'.heap.size)
  (hi : ∀ r r' b b' g, look heap' r = some (some b) → look heap' r' = some (some b') → p' r = some g → p' r' = some g → r = r') : ObOk mine' w' p' F' heap' := by
 intro r b K g hb hK hp
 obtain ⟨hb0, hp0⟩ := hold r b K hb hK
 have hp1 : p r = some g := hp0 ▸ hp
 obtain ⟨k1, k2⟩ := h r b K g hb0 hK hp1
 obtain ⟨w1, w2⟩ := hw r b K g hb hK hp
 obtain ⟨l1, l2⟩ := K.law w w' g k1 w1 w2
 refine ⟨l1, fun x hx => ?_⟩
 obtain ⟨q1, q2, q3, q4⟩ := k2 x ((l2 x).1 hx)
 refine ⟨hm x q1, Nat.lt_of_lt_of_le q2 hs, fun j hj => ?_, fun r' b' g' hb' hp' hne hf => ?_⟩
 ·rcases hF x j hj with f | f | ⟨r0, b0, f1, f2, f3⟩
  ·exact q3 j f
  ·omega
  ·by_cases e : r0 = r
   ·subst e; rw [hb0] at f1; injection f1 with f1; injection f1 with f1; subst f1; rw [hK] at f2; cases f2
   ·exact q4 r0 b0 x f1 f3 e (.inl rfl)
 ·rcases hf with rfl | ⟨K', e1, e2⟩
  ·cases e : isOb b' with
   | none =>
    rcases hloc r' b' x hb' hp' e with f | ⟨r0, b0, f1, f2⟩
    ·omega
    ·by_cases e0 : r0 = r
     ·subst e0
      rw [hp1] at f2; injection f2 with f2; subst f2
      exact hne (hi r' r0 b' b g hb' hb hp' hp)
     ·exact q4 r0 b0 x f1 f2 e0 (.inl rfl)
   | some K' =>
    obtain ⟨f1, f2⟩ := hold r' b' K' hb' e
    exact q4 r' b' x f1 (f2 ▸ hp') hne (.inl rfl)
  ·obtain ⟨f1, f2⟩ := hold r' b' K' hb' e1
   have f3 : p r' = some g' := f2 ▸ hp'
   obtain ⟨w3, w4⟩ := hw r' b' K' g' hb' e1 hp'
   exact q4 r' b' g' f1 f3 hne (.inr ⟨K', e1, ((K'.law w w' g' (h r' b' K' g' f1 e1 f3).1 w3 w4).2 x).1 e2⟩)
structure Rel (w0 : Ori) (F0 : Nat → Nat → Prop) (m : Fr) (D : Nat → Prop) (p : Nat → Option Nat) (c : Nat → Nat) (F : Nat → Nat → Prop)
  (slots : List (Nat × AV)) (heap : List (Nat × Option ABlk)) (a : Act) (w : World) : Prop where
 slots : ∀ t v, look slots t = some v → Rep w p c F D v (a.tmps.getD t undef)
 size : a.tmps.size = m.n
 keep : ∀ t, t < m.keep → a.tmps.getD t undef = w0.gh.getD t undef
 defers : a.defers = w0.ds
 live : ∀ r b, look heap r = some (some b) → D r ∧ BlkOk P w D p c F r b
 inj : ∀ r r' b b' g, look heap r = some (some b) → look heap r' = some (some b') → p r = some g → p r' = some g → r = r'
 own : ∀ r b g, look heap r = some (some b) → p r = some g → w0.mine g
 fr : ∀ g j, F g j → g < w.heap.size ∧ (F0 g j ∨ w0.mine g)
 fz : ∀ r b g j, look heap r = some (some b) → p r = some g → F g j → b.fz = true ∧ j < b.cells.length
 sub : ∀ g j, F0 g j → F g j
 f0 : ∀ g j, F0 g j → g < w0.w.heap.size
 below : Held w0 w
 cell : ∀ g j, F0 g j → w.cell? ⟨g, j, none⟩ = w0.w.cell? ⟨g, j, none⟩
 ob : ObOk w0.mine w p F heap
end
section
variable {P : Program} {w w' : World} {w0 : Ori} {D D' : Nat → Prop} {p p' : Nat → Option Nat} {c c' : Nat → Nat} {F F' F0 : Nat → Nat → Prop} {m : Fr}
 {slots : List (Nat × AV)} {heap : List (Nat × Option ABlk)} {a : Act}
theorem BlkOk.mono {r : Nat} {b : ABlk} (h : BlkOk P w D p c F r b) (hd : D r) (e : Ext w D p c F w' D' p' c' F') (hh : ∀ g, p r = some g → w'.heap[g]? = w.heap[g]?) : BlkOk P w' D' p' c' F' r b := by
 obtain ⟨_, h2, h3⟩ := e.dom r hd
 unfold BlkOk at *
 rw [h2]
 cases hp : p r with
 | none => rw [hp] at h; simp only at h ⊢; rw [h3]; exact h
 | some g =>
  rw [hp] at h
  obtain ⟨us, t, fr, k1, k2, k3, k4, k5⟩ := h
  exact ⟨us, t, fr, by rw [hh g hp]; exact k1, k2, k3, fun j hj => (k4 j hj).mono (by cases b.pu; exact e; exact e.no), fun e' he => by rw [h3]; exact k5 e' he⟩
theorem BlkOk.lt {r g : Nat} {b : ABlk} (h : BlkOk P w D p c F r b) (hp : p r = some g) : g < w.heap.size := by
 unfold BlkOk at h
 rw [hp] at h
 obtain ⟨us, t, fr, k1, _⟩ := h
 apply Classical.byContradiction
 intro hn
 rw [Array.getElem?_eq_none (by omega)] at k1
 cases k1
theorem Rel.upd (h : Rel P w0 F0 m D p c F slots heap a w) (e : Ext w D p c F w' D' p' c' F') {heap' : List (Nat × Option ABlk)}
  (live : ∀ r b, look heap' r = some (some b) → D' r ∧ BlkOk P w' D' p' c' F' r b)
  (inj : ∀ r r' b b' g, look heap' r = some (some b) → look heap' r' = some (some b') → p' r = some g → p' r' = some g → r = r')
  (own : ∀ r b g, look heap' r = some (some b) → p' r = some g → w0.mine g)
  (fr : ∀ g j, F' g j → g < w'.heap.size ∧ (F0 g j ∨ w0.mine g))
  (fz : ∀ r b g j, look heap' r = some (some b) → p' r = some g → F' g j → b.fz = true ∧ j < b.cells.length)
  (below : Held w0 w') (ob : ObOk w0.mine w' p' F' heap') : Rel P w0 F0 m D' p' c' F' slots heap' a w' :=
 ⟨fun t v ht => (h.slots t v ht).mono e, h.size, h.keep, h.defers, live, inj, own, fr, fz, fun g j hj => e.fr _ _ (h.sub g j hj), h.f0, below, fun g j hj => (e.cell g j (h.sub g j hj)).trans (h.cell g j hj), ob⟩
theorem Rel.ext_below (h : Rel P w0 F0 m D p c F slots heap a w) (hb : Below w.heap.size w w') : Ext w D p c F w' D p c F :=
 ⟨fun r hr => ⟨hr, rfl, rfl⟩, fun _ _ h => h, fun g j hj => World.cell?_of_block (w := w) (a := ⟨g, j, none⟩) (hb.block g (h.fr g j hj).1)⟩
theorem Rel.world (h : Rel P w0 F0 m D p c F slots heap a w) (hb : Below w.heap.size w w') : Rel P w0 F0 m D p c F slots heap a w' :=
 h.upd (h.ext_below hb) (fun r b hr => ⟨(h.live r b hr).1, (h.live r b hr).2.mono (h.live r b hr).1 (h.ext_below hb) fun g hg => hb.block g ((h.live r b hr).2.lt hg)⟩)
  h.inj h.own (fun g j hj => ⟨Nat.lt_of_lt_of_le (h.fr g j hj).1 hb.size, (h.fr g j hj).2⟩) h.fz (h.below.grow hb)
  (h.ob.step (fun r b K hr _ => ⟨hr, rfl⟩) (fun r b g hr hp _ => .inr ⟨r, b, hr, hp⟩) (fun r b K g hr hK hp => ⟨hb.block g ((h.live r b hr).2.lt hp), fun x hx => hb.block x ((h.ob r b K g hr hK hp).2 x hx).2.1⟩) (fun _ _ hj => .inl hj) (fun _ hx => hx) hb.size h.inj)
theorem Rel.put (h : Rel P w0 F0 m D p c F slots heap a w) {v : AV} {x : Value} (hr : Rep w p c F D v x) {d : Nat} (hd : d < m.n) (hd2 : m.keep ≤ d) :
  Rel P w0 F0 m D p c F ((d, v) :: slots) heap (a.put (some d) x) w := by
 refine ⟨fun t u ht => ?_, ?_, fun t ht => ?_, h.defers, h.live, h.inj, h.own, h.fr, h.fz, h.sub, h.f0, h.below, h.cell, h.ob⟩
 ·rw [look_cons] at ht
  by_cases e : d = t
  ·subst e
   rw [if_pos rfl] at ht; injection ht with ht; subst ht
   have : (a.put (some d) x).tmps.getD d undef = x := by
    simp [Act.put, h.size, hd]
   rw [this]; exact hr
  ·rw [if_neg e] at ht
   have : (a.put (some d) x).tmps.getD t undef = a.tmps.getD t undef := by
    simp [Act.put, Array.getElem?_setIfInBounds, e]
   rw [this]; exact h.slots t u ht
 ·simp [Act.put, h.size]
 ·have : (a.put (some d) x).tmps.getD t undef = a.tmps.getD t undef := by
   simp [Act.put, Array.getElem?_setIfInBounds, show ¬ d = t by omega]
  rw [this]; exact h.keep t ht
theorem Rel.weaken (h : Rel P w0 F0 m D p c F slots heap a w) {slots' : List (Nat × AV)} {heap' : List (Nat × Option ABlk)}
  (hs : ∀ t v, look slots' t = some v → v = .unk ∨ look slots t = some v) (hh : ∀ r b, look heap' r = some (some b) → look heap r = some (some b)) : Rel P w0 F0 m D p c F slots' heap' a w :=
 ⟨fun t v ht => by
  rcases hs t v ht with rfl | h'
  ·exact .unk _ _
  ·exact h.slots t v h', h.size, h.keep, h.defers, fun r b hr => h.live r b (hh r b hr), fun r r' b b' g h1 h2 => h.inj r r' b b' g (hh _ _ h1) (hh _ _ h2),
  fun r b g h1 => h.own r b g (hh _ _ h1), h.fr, fun r b g j h1 => h.fz r b g j (hh _ _ h1), h.sub, h.f0, h.below, h.cell,
  h.ob.step (fun r b K hr _ => ⟨hh r b hr, rfl⟩) (fun r b g hr hp _ => .inr ⟨r, b, hh r b hr, hp⟩) (fun r b K g _ _ _ => ⟨rfl, fun _ _ => rfl⟩) (fun _ _ hj => .inl hj) (fun _ hx => hx) (Nat.le_refl _) fun r r' b b' g h1 h2 => h.inj r r' b b' g (hh _ _ h1) (hh _ _ h2)⟩
def setAt {α : Type} (f : Nat → α) (r : Nat) (x : α) : Nat → α := fun i => if i = r then x else f i
theorem setAt_same {α : Type} (f : Nat → α) (r : Nat) (x : α) : setAt f r x r = x := by simp [setAt]
theorem setAt_ne {α : Type} (f : Nat → α) {r i : Nat} (x : α) (h : i ≠ r) : setAt f r x i = f i := by simp [setAt, h]
def addD (D : Nat → Prop) (r : Nat) : Nat → Prop := fun i => D i ∨ i = r
theorem Rel.new (h : Rel P w0 F0 m D p c F slots heap a w) (hb : Below w.heap.size w w') {r g k : Nat} {b : ABlk} (hr : ¬ D r) (hg : w.heap.size ≤ g) (hgw : g < w'.heap.size)
  (hF : ∀ g j, F g j → F' g j) (hF2 : ∀ g' j, F' g' j → F g' j ∨ (w.heap.size ≤ g' ∧ g' < w'.heap.size)) (hF3 : ∀ j, F' g j → b.fz = true ∧ j < b.cells.length)
  (hob : isOb b = none) (hB : BlkOk P w' (addD D r) (setAt p r (some g)) (setAt c r k) F' r b) : Rel P w0 F0 m (addD D r) (setAt p r (some g)) (setAt c r k) F' slots ((r, some b) :: heap) a w' := by
 have hne : ∀ i, D i → i ≠ r := fun i hi e => hr (e ▸ hi)
 have e : Ext w D p c F w' (addD D r) (setAt p r (some g)) (setAt c r k) F' :=
  ⟨fun i hi => ⟨.inl hi, setAt_ne p _ (hne i hi), setAt_ne c _ (hne i hi)⟩, hF, (h.ext_below hb).cell⟩
 have hold : ∀ i b' g', look heap i = some (some b') → setAt p r (some g) i = some g' → i ≠ r ∧ p i = some g' ∧ g' < w.heap.size := by
  intro i b' g' hi hp'
  have hi' := h.live i b' hi
  have hn := hne i hi'.1
  rw [setAt_ne p _ hn] at hp'
  exact ⟨hn, hp', hi'.2.lt hp'⟩
 have hinj : ∀ i i' b1 b2 g', look ((r, some b) :: heap) i = some (some b1) → look ((r, some b) :: heap) i' = some (some b2) → setAt p r (some g) i = some g' → setAt p r (some g) i' = some g' → i = i' := by
  intro i i' b1 b2 g' h1 h2 p1 p2
  rw [look_cons] at h1 h2
  by_cases e1 : r = i
  ·by_cases e2 : r = i'
   ·rw [← e1, ← e2]
   ·subst e1
    rw [if_neg e2] at h2
    obtain ⟨_, _, hlt⟩ := hold i' b2 g' h2 p2
    rw [setAt_same] at p1; injection p1 with p1; omega
  ·by_cases e2 : r = i'
   ·subst e2
    rw [if_neg e1] at h1
    obtain ⟨_, _, hlt⟩ := hold i b1 g' h1 p1
    rw [setAt_same] at p2; injection p2 with p2; omega
   ·rw [if_neg e1] at h1
    rw [if_neg e2] at h2
    obtain ⟨_, q1, _⟩ := hold i b1 g' h1 p1
    obtain ⟨_, q2, _⟩ := hold i' b2 g' h2 p2
    exact h.inj i i' b1 b2 g' h1 h2 q1 q2
 refine h.upd e ?_ hinj ?_ ?_ ?_ (h.below.grow hb) (h.ob.step (fun i b' K hi hK => ?_) (fun i b' g' hi hp' _ => ?_) (fun i b' K g' hi hK hp' => ?_) (fun g' j hj => ?_) (fun _ hx => hx) hb.size hinj)
 ·intro i b' hi
  rw [look_cons] at hi
  by_cases hir : r = i
  ·subst hir; rw [if_pos rfl] at hi; injection hi with hi; injection hi with hi; subst hi
   exact ⟨.inr rfl, hB⟩
  ·rw [if_neg hir] at hi
   have hi' := h.live i b' hi
   exact ⟨.inl hi'.1, hi'.2.mono hi'.1 e fun g' hg' => hb.block g' (hi'.2.lt hg')⟩
 ·intro i b' g' hi hp'
  rw [look_cons] at hi
  by_cases hir : r = i
  ·subst hir; rw [setAt_same] at hp'; injection hp' with hp'; exact h.below.mine_of (hp' ▸ hg)
  ·rw [if_neg hir] at hi
   obtain ⟨_, q, _⟩ := hold i b' g' hi hp'
   exact h.own i b' g' hi q
 ·intro g' j hj
  rcases hF2 g' j hj with h1 | ⟨h1, h2⟩
  ·exact ⟨Nat.lt_of_lt_of_le (h.fr g' j h1).1 hb.size, (h.fr g' j h1).2⟩
  ·exact ⟨h2, .inr (h.below.mine_of h1)⟩
 ·intro i b' g' j hi hp' hj
  rw [look_cons] at hi
  by_cases hir : r = i
  ·subst hir; rw [if_pos rfl] at hi; injection hi with hi; injection hi with hi; subst hi
   rw [setAt_same] at hp'; injection hp' with hp'; subst hp'
   exact hF3 j hj
  ·rw [if_neg hir] at hi
   obtain ⟨_, q, hlt⟩ := hold i b' g' hi hp'
   rcases hF2 g' j hj with h1 | ⟨h1, _⟩
   ·exact h.fz i b' g' j hi q h1
   ·omega
 ·rw [look_cons] at hi
  by_cases hir : r = i
  ·subst hir; rw [if_pos rfl] at hi; injection hi with hi; injection hi with hi; subst hi; rw [hob] at hK; cases hK
  ·rw [if_neg hir] at hi; exact ⟨hi, setAt_ne p _ (Ne.symm hir)⟩
 ·rw [look_cons] at hi
  by_cases hir : r = i
  ·subst hir; rw [setAt_same] at hp'; injection hp' with hp'; exact .inl (by omega)
  ·rw [if_neg hir] at hi
   rw [setAt_ne p _ (Ne.symm hir)] at hp'
   exact .inr ⟨i, b', hi, hp'⟩
 ·rw [look_cons] at hi
  by_cases hir : r = i
  ·subst hir; rw [if_pos rfl] at hi; injection hi with hi; injection hi with hi; subst hi; rw [hob] at hK; cases hK
  ·rw [if_neg hir] at hi
   rw [setAt_ne p _ (Ne.symm hir)] at hp'
   exact ⟨hb.block g' ((h.live i b' hi).2.lt hp'), fun x hx => hb.block x ((h.ob i b' K g' hi hK hp').2 x hx).2.1⟩
 ·rcases hF2 g' j hj with h1 | ⟨h1, _⟩
  ·exact .inl h1
  ·exact .inr (.inl h1)
end
/-! ### functions that write to what their arguments reach -/
def ltD (n : Nat) : Nat → Prop := fun i => i < n
def zipB : Nat → List ABlk → List (Nat × Option ABlk)
 | _, [] => []
 | i, b :: l => (i, some b) :: zipB (i + 1) l
structure BlksOk (P : Program) (w : World) (p : Nat → Option Nat) (c : Nat → Nat) (F : Nat → Nat → Prop) (bs : List ABlk) : Prop where
 live : ∀ i b, bs[i]? = some b → BlkOk P w (ltD bs.length) p c F i b
 inj : ∀ i i' g, i < bs.length → i' < bs.length → p i = some g → p i' = some g → i = i'
 fz : ∀ i b g j, bs[i]? = some b → p i = some g → F g j → b.fz = true ∧ j < b.cells.length
 ob : ∀ i b K g, bs[i]? = some b → isOb b = some K → p i = some g →
  K.K w g ∧ ∀ x, K.fp w g x → x < w.heap.size ∧ (∀ j, ¬ F x j) ∧ ∀ i' b' g', bs[i']? = some b' → p i' = some g' → i' ≠ i → ¬ foot w b' g' x
def inM (w : World) (p : Nat → Option Nat) (bs : List ABlk) : Nat → Prop := fun x => ∃ i b g, bs[i]? = some b ∧ p i = some g ∧ foot w b g x
def SoundM (P : Program) (f : FuncId) (args : List AV) (bs : List ABlk) (rargs : List AV) (r : AV) (bs' : List ABlk) : Prop :=
 (∀ (xs : Array Value) (w : World), (callFunc f xs).run P w = .ok (.enter f xs) w) ∧
 ∀ (w : World) (p : Nat → Option Nat) (c : Nat → Nat) (F : Nat → Nat → Prop) (xs : Array Value), xs.size = args.length → (∀ j (h : j < args.length), Rep w p c F (ltD bs.length) args[j] (xs.getD j undef)) → BlksOk P w p c F bs → (∀ g j, F g j → g < w.heap.size) →
  Calls P f xs w fun e w' => ∃ v p' c' F', e = .returned v ∧ Held ⟨w, inM w p bs, #[], []⟩ w' ∧ (∀ g j, F g j → F' g j ∧ w'.cell? ⟨g, j, none⟩ = w.cell? ⟨g, j, none⟩) ∧ (∀ g j, F' g j → g < w'.heap.size ∧ (F g j ∨ (Ori.mk w (inM w p bs) #[] []).mine g)) ∧
   BlksOk P w' p' c' F' bs' ∧ (∀ i b g x, bs'[i]? = some b → p' i = some g → foot w' b g x → (Ori.mk w (inM w p bs) #[] []).mine x) ∧ rargs.length ≤ args.length ∧ (∀ j (h : j < rargs.length), Rep w' p' c' F' (ltD bs'.length) rargs[j] (xs.getD j undef)) ∧ Rep w' p' c' F' (ltD bs'.length) r v
end
section
abbrev Sl := List (Nat × AV)
abbrev Hp := List (Nat × Option ABlk)
def slotOf (sl : Sl) (t : Nat) : AV := match look sl t with
 | some v => v
 | none => .unk
def ev (sl : Sl) : Operand → AV
 | .tmp t => slotOf sl t
 | .const v => .ex v
 | .global _ => .unk
 | .func f => .ex (.func (.func f) #[] #[])
def blkOf (h : Hp) (r : Nat) : Option ABlk := match look h r with
 | some (some b) => some b
 | _ => none
inductive Hold (p : Prop) : Prop where
 | mk (h : p) : Hold p
theorem Hold.out {p : Prop} (h : Hold p) : p := by cases h; assumption
def forceN (n : Nat) (k : Nat → Prop) : Prop := match n with
 | 0 => k 0
 | n + 1 => k (n + 1)
theorem forceN_eq (n : Nat) (k : Nat → Prop) : forceN n k = k n := by cases n <;> rfl
def forceV (v : AV) (k : AV → Prop) : Prop := match v with
 | .ex v => k (.ex v)
 | .unk => k .unk
 | .ob K => k (.ob K)
 | .ptr r o => forceN r fun r => k (.ptr r o)
 | .sl r n => forceN r fun r => k (.sl r n)
 | .vs n cs => k (.vs n cs)
 | .vf n cs => k (.vf n cs)
 | .clo f cs => k (.clo f cs)
 | .bm f r => forceN r fun r => k (.bm f r)
 | .pt b cs => k (.pt b cs)
 | .vp cs o => k (.vp cs o)
 | .vq cs o => k (.vq cs o)
 | .own e n cs => k (.own e n cs)
 | .agg cs => k (.agg cs)
 | .tup vs => k (.tup vs)
theorem forceV_eq (v : AV) (k : AV → Prop) : forceV v k = k v := by
 cases v with
 | ptr r o => exact forceN_eq r fun r => k (.ptr r o)
 | sl r n => exact forceN_eq r fun r => k (.sl r n)
 | bm f r => exact forceN_eq r fun r => k (.bm f r)
 | _ => rfl
def forceCs : List AV → (List AV → Prop) → Prop
 | [], k => k []
 | v :: l, k => forceV v fun v => forceCs l fun l => k (v :: l)
theorem forceCs_eq : ∀ (l : List AV) (k : List AV → Prop), forceCs l k = k l
 | [], k => rfl
 | v :: l, k => by rw [forceCs, forceV_eq, forceCs_eq l]
def forceL : List Nat → (List Nat → Prop) → Prop
 | [], k => k []
 | r :: l, k => forceL l fun l => k (r :: l)
theorem forceL_eq : ∀ (l : List Nat) (k : List Nat → Prop), forceL l k = k l
 | [], k => rfl
 | r :: l, k => by rw [forceL, forceL_eq l]
def forceBs : List ABlk → (List ABlk → Prop) → Prop
 | [], k => k []
 | ⟨cs, none, fz, pu⟩ :: l, k => forceCs cs fun cs => forceBs l fun l => k (⟨cs, none, fz, pu⟩ :: l)
 | ⟨cs, some e, fz, pu⟩ :: l, k => forceBs l fun l => k (⟨cs, some e, fz, pu⟩ :: l)
theorem forceBs_eq : ∀ (l : List ABlk) (k : List ABlk → Prop), forceBs l k = k l
 | [], k => rfl
 | ⟨cs, none, fz, pu⟩ :: l, k => by rw [forceBs, forceCs_eq, forceBs_eq l]
 | ⟨cs, some e, fz, pu⟩ :: l, k => by rw [forceBs, forceBs_eq l]
def forceT (v : AV) (k : AV → Prop) : Prop := match v with
 | .tup vs => forceCs vs fun vs => k (.tup vs)
 | v => forceV v k
theorem forceT_eq (v : AV) (k : AV → Prop) : forceT v k = k v := by
 cases v with
 | tup vs => show forceCs vs _ = _; rw [forceCs_eq]
 | ptr r o => exact forceN_eq r fun r => k (.ptr r o)
 | sl r n => exact forceN_eq r fun r => k (.sl r n)
 | bm f r => exact forceN_eq r fun r => k (.bm f r)
 | _ => rfl
def forceH : Hp → (Hp → Prop) → Prop
 | [], k => k []
 | (r, none) :: l, k => forceH l fun l => k ((r, none) :: l)
 | (r, some ⟨cs, none, fz, pu⟩) :: l, k => forceCs cs fun cs => forceH l fun l => k ((r, some ⟨cs, none, fz, pu⟩) :: l)
 | (r, some ⟨cs, some e, fz, pu⟩) :: l, k => forceH l fun l => k ((r, some ⟨cs, some e, fz, pu⟩) :: l)
theorem forceH_eq : ∀ (l : Hp) (k : Hp → Prop), forceH l k = k l
 | [], k => rfl
 | (r, none) :: l, k => by rw [forceH, forceH_eq l]
 | (r, some ⟨cs, none, fz, pu⟩) :: l, k => by rw [forceH, forceCs_eq, forceH_eq l]
 | (r, some ⟨cs, some e, fz, pu⟩) :: l, k => by rw [forceH, forceH_eq l]
def forceB (b : Bool) (k : Bool → Prop) : Prop := match b with
 | true => k true
 | false => k false
theorem forceB_eq (b : Bool) (k : Bool → Prop) : forceB b k = k b := by cases b <;> rfl
def exAll : List AV → Option (List Value)
 | [] => some []
 | .ex v :: l => match exAll l with
  | some vs => some (v :: vs)
  | none => none
 | _ :: _ => none
def mkAgg (cs : List AV) : AV := match exAll cs with
 | some vs => .ex (.agg vs.toArray)
 | none => .agg cs
def exAllK : List AV → (List Value → Prop) → Prop → Prop
 | [], k, _ => k []
 | .ex v :: l, k, q => exAllK l (fun vs => k (v :: vs)) q
 | _ :: _, _, q => q
theorem exAllK_eq : ∀ (l : List AV) (k : List Value → Prop) (q : Prop), exAllK l k q = (exAll l).elim q k
 | [], k, q => rfl
 | v :: l, k, q => by
  cases v with
  | ex v =>
   simp only [exAllK, exAll]
   rw [exAllK_eq l]
   cases exAll l <;> rfl
  | _ => rfl
def mkAggK (cs : List AV) (k : AV → Prop) : Prop := exAllK cs (fun vs => k (.ex (.agg vs.toArray))) (k (.agg cs))
theorem mkAggK_eq (cs : List AV) (k : AV → Prop) : mkAggK cs k = k (mkAgg cs) := by
 unfold mkAggK mkAgg
 rw [exAllK_eq]
 cases exAll cs <;> rfl
def pureC : AV → Bool
 | .ex _ => true
 | .unk => true
 | .vs _ _ => true
 | .vf _ _ => true
 | .clo _ _ => true
 | .pt _ _ => true
 | .vp _ _ => true
 | .vq _ _ => true
 | _ => false
def pureV : AV → Bool
 | .agg cs => cs.all pureC
 | v => pureC v
def one1 : AV → Bool
 | .bm _ _ => true
 | .ex (.agg _) => false
 | .ex (.tuple _) => false
 | .ex _ => true
 | .vs _ _ => true
 | .vf _ _ => true
 | .clo _ _ => true
 | .pt _ _ => true
 | .vp _ _ => true
 | .vq _ _ => true
 | .ptr _ _ => true
 | .sl _ _ => true
 | _ => false
def isUnk : AV → Bool
 | .unk => true
 | .ob _ => true
 | _ => false
def known (v : AV) (k : Prop) : Prop := match isUnk v with
 | true => False
 | false => k
def semPure {α : Type} (P : Program) : Sem α → Option α
 | .pure a => some a
 | .program k => semPure P (k P)
 | .mark _ k => semPure P k
 | _ => none
def rho (sl : Sl) (o : Operand) : Value := match ev sl o with
 | .ex v => v
 | _ => undef
def exOnly (sl : Sl) : List Operand → Bool
 | [] => true
 | o :: l => match ev sl o with
  | .ex _ => exOnly sl l
  | _ => false
abbrev inR (n : Int) : Prop := -9223372036854775808 ≤ n ∧ n ≤ 9223372036854775807
def mulS (i : Nat) : Nat → Nat
 | 1 => i
 | n => i * n
theorem mulS_eq (i n : Nat) : mulS i n = i * n := by
 unfold mulS
 split <;> simp
def setL (cs : List AV) (off : Nat) : List AV → List AV
 | [] => cs
 | v :: vs => setL (cs.set off v) (off + 1) vs
def takeL (cs : List AV) (off k : Nat) : List AV := (cs.drop off).take k
variable (P : Program)
def kindT (t : TypeId) : Option Bool := match P.underlying t with
 | some (.struct _) => some true
 | some (.array _ _) => some true
 | some _ => some false
 | none => none
def loadA (t : TypeId) (cs : List AV) (off : Nat) (k : AV → Prop) : Prop := match kindT P t with
 | some true => off + sizeT P t ≤ cs.length ∧ forceCs (takeL cs off (sizeT P t)) fun l => mkAggK l k
 | some false => match cs[off]? with
  | some v => k v
  | none => False
 | none => False
def loadE (t : TypeId) (cs : List AV) (off : Nat) (k : AV → Prop) : Prop := match kindT P t with
 | some true => ∃ vs : List AV, (vs.length = sizeT P t ∧ ∀ j v, vs[j]? = some v → cs[off + j]? = some v) ∧ mkAggK vs k
 | some false => ∃ v, cs[off]? = some v ∧ k v
 | none => False
def packC (h : Hp) : AV → Option (AV × List Nat)
 | .ex v => some (.ex v, [])
 | .unk => some (.unk, [])
 | .vs n cs => some (.vs n cs, [])
 | .vf n cs => some (.vf n cs, [])
 | .clo f cs => some (.clo f cs, [])
 | .pt b cs => some (.pt b cs, [])
 | .vp cs o => some (.vp cs o, [])
 | .vq cs o => some (.vq cs o, [])
 | .sl r n => match blkOf h r with
  | some ⟨cs, _, _, true⟩ => some (.vs n cs, [r])
  | _ => none
 | .ptr r 0 => match blkOf h r with
  | some ⟨cs, _, _, true⟩ => some (.vp cs 0, [r])
  | _ => none
 | _ => none
def packL (h : Hp) : List AV → Option (List AV × List Nat)
 | [] => some ([], [])
 | v :: l => match packC h v with
  | some (v', f) => match packL h l with
   | some (l', f') => some (v' :: l', f ++ f')
   | none => none
  | none => none
def packV (h : Hp) : AV → Option (AV × List Nat)
 | .agg cs => match packL h cs with
  | some (cs', f) => some (.agg cs', f)
  | none => none
 | v => packC h v
def packVs (h : Hp) : List AV → Option (List AV × List Nat)
 | [] => some ([], [])
 | v :: l => match packV h v with
  | some (v', f) => match packVs h l with
   | some (l', f') => some (v' :: l', f ++ f')
   | none => none
  | none => none
def freezes (h : Hp) : List Nat → Hp
 | [] => []
 | r :: l => match blkOf h r with
  | some ⟨cs, el, true, pu⟩ => freezes h l
  | some ⟨cs, el, false, pu⟩ => (r, some ⟨cs, el, true, pu⟩) :: freezes h l
  | none => freezes h l
def fieldOff (t : TypeId) (f : Nat) : Option (Nat × TypeId) := match P.underlying t with
 | some (.struct fs) => match fs[f]? with
  | some fd => match Nat.blt 0 (sizeT P fd.type) with
   | true => some (fd.offset, fd.type)
   | false => none
  | none => none
 | _ => none
def unpackV (nx : Nat) : AV → AV × Hp × Nat
 | .own e n cs => (.sl nx n, [(nx, some ⟨cs, some e, true, true⟩)], 1)
 | v => (v, [], 0)
def unpackL (nx : Nat) : List AV → List AV × Hp × Nat
 | [] => ([], [], 0)
 | .own e n cs :: l => (.sl nx n :: l, [(nx, some ⟨cs, some e, true, true⟩)], 1)
 | v :: l => match unpackL nx l with
  | (l', h, n) => (v :: l', h, n)
def unpack (nx : Nat) : AV → AV × Hp × Nat
 | .tup vs => match unpackL nx vs with
  | (vs', h, n) => (.tup vs', h, n)
 | v => unpackV nx v
def byteA (b : UInt8) : AV := .ex (.int .u8 b.toNat)
def bytesA (l : List UInt8) : List AV := l.map byteA
def readS (h : Hp) : AV → Option (Nat × List AV × Bool)
 | .vs n cs => some (n, cs, true)
 | .vf n cs => some (n, cs, true)
 | .sl r n => match blkOf h r with
  | some ⟨cs, _, _, pu⟩ => some (n, cs, pu)
  | none => none
 | .ex (.slice none 0 0) => some (0, [], true)
 | _ => none
abbrev Kt := AV → Hp → Nat → Prop
variable (Sound : FuncId → List AV → AV → Prop)
def opPick (sl : Sl) (c a b : Operand) (k : Kt) : Prop := match ev sl c with
 | .ex (.bool c) => match c with
  | true => k (ev sl a) [] 0
  | false => k (ev sl b) [] 0
 | _ => False
def opAlloc (nx : Nat) (t : TypeId) (k : Kt) : Prop := match zeroT P t with
 | some z => forceCs (AV.ex z).cells fun cs => k (.ptr nx 0) [(nx, some ⟨cs, none, false, true⟩)] 1
 | none => False
def opBox (sl : Sl) (nx : Nat) (x : Operand) (k : Kt) : Prop :=
 known (ev sl x) (forceV (ev sl x) fun v => forceCs v.cells fun cs => forceB (pureV v) fun pu => k (.ptr nx 0) [(nx, some ⟨cs, none, false, pu⟩)] 1)
def opLoad (sl : Sl) (h : Hp) (t : TypeId) (a : Operand) (k : Kt) : Prop := match ev sl a with
 | .ptr r off => match blkOf h r with
  | some ⟨cs, none, _, _⟩ => loadA P t cs off fun v => k v [] 0
  | some ⟨cs, some _, _, _⟩ => loadE P t cs off fun v => k v [] 0
  | none => False
 | .vp cs off => loadA P t cs off fun v => k v [] 0
 | .vq cs off => loadE P t cs off fun v => k v [] 0
 | .pt b cs => match b with
  | true => loadA P t cs 0 fun v => k v [] 0
  | false => False
 | _ => False
def opStore (sl : Sl) (h : Hp) (t : TypeId) (a x : Operand) (k : Kt) : Prop := match ev sl a with
 | .ptr r off => match blkOf h r with
  | some ⟨cs, el, false, pu⟩ => known (ev sl x) (forceV (ev sl x) fun v => match v.cells.all one1, Nat.beq v.cells.length (sizeT P t), Nat.blt 0 (sizeT P t) with
   | true, true, true => off + v.cells.length ≤ cs.length ∧ forceB (pu && pureV v) fun pu => match el with
    | none => forceCs (setL cs off v.cells) fun cs => k (.ex undef) [(r, some ⟨cs, none, false, pu⟩)] 0
    | some e => forceCs v.cells fun vs => k (.ex undef) [(r, some ⟨setL cs off vs, some e, false, pu⟩)] 0
   | _, _, _ => False)
  | _ => False
 | _ => False
def opFieldAddr (sl : Sl) (t : TypeId) (x : Operand) (f : Nat) (k : Kt) : Prop := match fieldOff P t f with
 | some (d, _) => match ev sl x with
  | .ptr r off => k (.ptr r (off + d)) [] 0
  | .vp cs off => k (.vp cs (off + d)) [] 0
  | .vq cs off => k (.vq cs (off + d)) [] 0
  | .pt b cs => match b with
   | true => k (.vp cs (0 + d)) [] 0
   | false => False
  | _ => False
 | none => False
def opNilCheck (sl : Sl) (x : Operand) (k : Kt) : Prop := match ev sl x with
 | .ptr r off => k (.ptr r off) [] 0
 | .vp cs off => k (.vp cs off) [] 0
 | .vq cs off => k (.vq cs off) [] 0
 | .pt b cs => match b with
  | true => k (.pt true cs) [] 0
  | false => False
 | _ => False
def opIndexAddr (sl : Sl) (h : Hp) (t : TypeId) (x i : Operand) (k : Kt) : Prop := match P.underlying t with
 | some (.slice e) => match Nat.blt 0 (sizeT P e) with
  | true => match ev sl x, ev sl i with
   | .sl r n, .ex (.int _ i) => match blkOf h r with
    | some _ => (0 ≤ i ∧ i < n) ∧ k (.ptr r (mulS i.toNat (sizeT P e))) [] 0
    | none => False
   | .vs n cs, .ex (.int _ i) => (0 ≤ i ∧ i < n) ∧ k (.vq cs (mulS i.toNat (sizeT P e))) [] 0
   | .vf n cs, .ex (.int _ i) => (0 ≤ i ∧ i < n) ∧ k (.vq cs (mulS i.toNat (sizeT P e))) [] 0
   | _, _ => False
  | false => False
 | some (.array n e) => match Nat.blt 0 (sizeT P e) with
  | true => match ev sl x, ev sl i with
   | .ptr r off, .ex (.int _ i) => (0 ≤ i ∧ i < n) ∧ k (.ptr r (off + mulS i.toNat (sizeT P e))) [] 0
   | _, _ => False
  | false => False
 | _ => False
def opExtract (sl : Sl) (t : Operand) (i : Nat) (k : Kt) : Prop := match ev sl t with
 | .tup vs => match vs[i]? with
  | some v => k v [] 0
  | none => False
 | .ex (.tuple vs) => match vs[i]? with
  | some v => k (.ex v) [] 0
  | none => False
 | _ => False
def partsOk (size : Nat) : Nat → List (Nat × AV) → Bool
 | _, [] => true
 | i, (j, v) :: l => match isUnk v with
  | true => false
  | false => match Nat.beq i j, Nat.beq v.cells.length size with
   | true, true => partsOk size (i + 1) l
   | _, _ => false
def partCells : List (Nat × AV) → List AV
 | [] => []
 | (_, v) :: l => v.cells ++ partCells l
def partsPure : List (Nat × AV) → Bool
 | [] => true
 | (_, v) :: l => pureV v && partsPure l
def evParts (sl : Sl) : List (Nat × Operand) → List (Nat × AV)
 | [] => []
 | (i, x) :: l => (i, ev sl x) :: evParts sl l
def opBuildSlice (sl : Sl) (nx : Nat) (t : TypeId) (n : Nat) (parts : List (Nat × Operand)) (k : Kt) : Prop := match P.underlying t with
 | some (.slice e) => match partsOk (sizeT P e) 0 (evParts sl parts), Nat.beq parts.length n, Nat.ble n 1000, Nat.ble (sizeT P e) 1000, Nat.blt 0 (sizeT P e), zeroT P e with
  | true, true, true, true, true, some _ => forceCs (partCells (evParts sl parts)) fun cs => forceB (partsPure (evParts sl parts)) fun pu => ∃ fz : Bool, k (.sl nx n) [(nx, some ⟨cs, some e, fz, pu⟩)] 1
  | _, _, _, _, _, _ => False
 | _ => False
def fillL (fs : Array Field) (cs : List AV) : List (Nat × AV) → Option (List AV)
 | [] => some cs
 | (i, v) :: l => match fs[i]? with
  | some f => match isUnk v with
   | true => none
   | false => match Nat.beq v.cells.length (sizeT P f.type), Nat.ble (f.offset + v.cells.length) cs.length with
    | true, true => fillL fs (setL cs f.offset v.cells) l
    | _, _ => none
  | none => none
def opBuild (sl : Sl) (t : TypeId) (parts : List (Nat × Operand)) (k : Kt) : Prop := match P.underlying t, zeroT P t with
 | some (.struct fs), some z => match fs.toList.all (fun f => Nat.blt 0 (sizeT P f.type)), fillL P fs (AV.ex z).cells (evParts sl parts) with
  | true, some cs => forceCs cs fun cs => mkAggK cs fun v => k v [] 0
  | _, _ => False
 | _, _ => False
def opField (sl : Sl) (t : TypeId) (x : Operand) (f : Nat) (k : Kt) : Prop := match fieldOff P t f with
 | some (d, ft) => match ev sl x with
  | .ex (.agg us) => loadA P ft (AV.ex (.agg us)).cells d fun v => k v [] 0
  | .agg cs => loadA P ft cs d fun v => k v [] 0
  | _ => False
 | none => False
def opIndex (sl : Sl) (t : TypeId) (x i : Operand) (k : Kt) : Prop := match P.underlying t with
 | some .string => match ev sl x, ev sl i with
  | .ex (.string s), .ex (.int _ i) => ∃ b, (0 ≤ i ∧ s[i.toNat]? = some b) ∧ k (.ex (.int .u8 b.toNat)) [] 0
  | _, _ => False
 | some (.array n e) => match ev sl x, ev sl i with
  | .ex (.agg us), .ex (.int _ i) => match kindT P e, Nat.beq 1 (sizeT P e) with
   | some false, true => (0 ≤ i ∧ i < n) ∧ ∃ v, us[i.toNat]? = some v ∧ k (.ex v) [] 0
   | _, _ => False
  | _, _ => False
 | _ => False
def bndV (sl : Sl) (d : Int) : Option Operand → Option Int
 | none => some d
 | some o => match ev sl o with
  | .ex (.int _ i) => some i
  | _ => none
def opSlice (sl : Sl) (h : Hp) (t : TypeId) (x : Operand) (lo hi mx : Option Operand) (k : Kt) : Prop := match P.underlying t with
 | some .string => match ev sl x, mx with
  | .ex (.string s), none => match bndV sl 0 lo, bndV sl s.size hi with
   | some l, some h => (0 ≤ l ∧ l ≤ h ∧ h ≤ s.size) ∧ k (.ex (.string (s.extract l.toNat h.toNat))) [] 0
   | _, _ => False
  | _, _ => False
 | some (.slice e) => match mx, Nat.blt 0 (sizeT P e) with
  | none, true => match ev sl x with
   | .vs n cs => match bndV sl 0 lo, bndV sl n hi with
    | some l, some h => (0 ≤ l ∧ l ≤ h ∧ h ≤ n ∧ n * sizeT P e ≤ cs.length) ∧ k (.vs (h.toNat - l.toNat) (takeL cs (mulS l.toNat (sizeT P e)) (mulS (h.toNat - l.toNat) (sizeT P e)))) [] 0
    | _, _ => False
   | .sl r n => match blkOf h r with
    | some ⟨cs, _, _, true⟩ => match bndV sl 0 lo, bndV sl n hi with
     | some l, some u => (0 ≤ l ∧ l ≤ u ∧ u ≤ n ∧ n * sizeT P e ≤ cs.length) ∧ k (.vs (u.toNat - l.toNat) (takeL cs (mulS l.toNat (sizeT P e)) (mulS (u.toNat - l.toNat) (sizeT P e)))) (freezes h [r]) 0
     | _, _ => False
    | _ => False
   | .vf n cs => match bndV sl 0 lo, bndV sl n hi with
    | some l, some h => (0 ≤ l ∧ l ≤ h ∧ h ≤ n ∧ n * sizeT P e ≤ cs.length) ∧ k (.vs (h.toNat - l.toNat) (takeL cs (mulS l.toNat (sizeT P e)) (mulS (h.toNat - l.toNat) (sizeT P e)))) [] 0
    | _, _ => False
   | _ => False
  | some mo, true => match lo, hi, ev sl mo with
   | none, some ho, .ex (.int _ u) => match ev sl ho with
    | .ex (.int _ u') => match ev sl x with
     | .ex (.slice none 0 0) => (u = 0 ∧ u' = 0) ∧ k (.ex (.slice none 0 0)) [] 0
     | .vf n cs => (0 ≤ u ∧ u = u' ∧ u ≤ n ∧ n * sizeT P e ≤ cs.length) ∧ k (.vf u.toNat (takeL cs 0 (mulS u.toNat (sizeT P e)))) [] 0
     | .vs n cs => (0 ≤ u ∧ u = u' ∧ u ≤ n ∧ n * sizeT P e ≤ cs.length) ∧ k (.vf u.toNat (takeL cs 0 (mulS u.toNat (sizeT P e)))) [] 0
     | .sl r n => match blkOf h r with
      | some ⟨cs, _, _, true⟩ => (0 ≤ u ∧ u = u' ∧ u ≤ n ∧ n * sizeT P e ≤ cs.length) ∧ k (.vf u.toNat (takeL cs 0 (mulS u.toNat (sizeT P e)))) (freezes h [r]) 0
      | _ => False
     | _ => False
    | _ => False
   | _, _, _ => False
  | _, _ => False
 | some (.array n e) => match ev sl x, lo, hi, mx with
  | .ptr r 0, none, none, none => match Nat.blt 0 (sizeT P e), blkOf h r with
   | true, some ⟨cs, _, _, true⟩ => (0 < n ∧ n * sizeT P e ≤ cs.length) ∧ k (.vs n (takeL cs 0 (mulS n (sizeT P e)))) (freezes h [r]) 0
   | _, _ => False
  | _, _, _, _ => False
 | _ => False
def opLen (sl : Sl) (t : TypeId) (x : Operand) (k : Kt) : Prop := match P.underlying t with
 | some (.slice _) => match ev sl x with
  | .sl _ n => k (.ex (.int .i64 n)) [] 0
  | .vs n _ => k (.ex (.int .i64 n)) [] 0
  | .vf n _ => k (.ex (.int .i64 n)) [] 0
  | .ex (.slice none n _) => k (.ex (.int .i64 n)) [] 0
  | _ => False
 | some .string => match ev sl x with
  | .ex (.string b) => k (.ex (.int .i64 b.size)) [] 0
  | _ => False
 | some (.array n _) => k (.ex (.int .i64 n)) [] 0
 | _ => False
def bytesT (t : TypeId) : Nat := match P.info? t with
 | some i => i.bytes
 | none => 0
def room (n b : Nat) : Prop := n ≤ 4611686018427387904 ∧ n * b ≤ 140737488355328
def appendOn (sl : Sl) (h : Hp) (nx : Nat) (e : TypeId) (s : Operand) (m : Nat) (ds : List AV) (px : Bool) (pre : Prop) (k : Kt) : Prop :=
 match zeroT P e with
 | some z => match Nat.beq z.cells.size (sizeT P e), Nat.blt 0 (sizeT P e), Nat.blt 0 (bytesT P e) with
  | true, true, true => match ev sl s with
   | .sl r n => match blkOf h r with
    | some ⟨cs, some e', fz, pu⟩ => match Nat.beq e e' with
     | true => (room (n + m) (bytesT P e) ∧ cs.length = n * sizeT P e ∧ pre) ∧ k (.sl nx (n + m)) [(nx, some ⟨cs ++ ds, some e, fz, pu && px⟩), (r, none)] 1
     | false => False
    | _ => False
   | .ex (.slice none 0 0) => (room m (bytesT P e) ∧ pre) ∧ k (.sl nx m) [(nx, some ⟨ds, some e, false, px⟩)] 1
   | .vf n cs => (room (n + m) (bytesT P e) ∧ cs.length = n * sizeT P e ∧ 0 < m ∧ pre) ∧ k (.sl nx (n + m)) [(nx, some ⟨cs ++ ds, some e, false, px⟩)] 1
   | _ => False
  | _, _, _ => False
 | none => False
def opAppend (sl : Sl) (h : Hp) (nx : Nat) (t tx : TypeId) (s x : Operand) (k : Kt) : Prop := match P.underlying t with
 | some (.slice e) => match P.underlying tx with
  | some (.slice _) => match readS h (ev sl x) with
   | some (m, ds, px) => appendOn P sl h nx e s m ds px (ds.length = m * sizeT P e ∧ ∀ v ∈ ds, one1 v = true) k
   | none => False
  | some .string => match ev sl x, Nat.beq 1 (sizeT P e) with
   | .ex (.string b), true => appendOn P sl h nx e s b.size (bytesA b.data.toList) true True k
   | _, _ => False
  | _ => False
 | _ => False
def zeroL (z : List AV) : Nat → List AV
 | 0 => []
 | n + 1 => z ++ zeroL z n
def opMake (sl : Sl) (nx : Nat) (t : TypeId) (n c : Operand) (k : Kt) : Prop := match P.underlying t with
 | some (.slice e) => match zeroT P e, ev sl n, ev sl c with
  | some z, .ex (.int _ n), .ex (.int _ c) => match Nat.beq z.cells.size (sizeT P e), Nat.blt 0 (sizeT P e), Nat.blt 0 (bytesT P e) with
   | true, true, true => (0 ≤ n ∧ n ≤ c ∧ room c.toNat (bytesT P e)) ∧ k (.sl nx n.toNat) [(nx, some ⟨zeroL (AV.ex z).cells n.toNat, some e, false, true⟩)] 1
   | _, _, _ => False
  | _, _, _ => False
 | _ => False
def opCopy (sl : Sl) (h : Hp) (t tx : TypeId) (d x : Operand) (k : Kt) : Prop := match P.underlying t, P.underlying tx, ev sl d, ev sl x with
 | some (.slice e), some .string, .sl r n, .ex (.string b) => match blkOf h r with
  | some ⟨cs, some e', false, pu⟩ => match Nat.beq e e', Nat.beq 1 (sizeT P e) with
   | true, true => cs.length = n ∧ k (.ex (.int .i64 (min b.size n : Nat))) [(r, some ⟨(bytesA b.data.toList).take n ++ cs.drop b.size, some e, false, pu⟩)] 0
   | _, _ => False
  | _ => False
 | _, _, _, _ => False
def opFall (sl : Sl) (o : Oper) (k : Kt) : Prop := match exOnly sl o.op.operands.toList with
 | true => match semPure P (execOp (rho sl) o) with
  | some (.value v) => k (.ex v) [] 0
  | _ => False
 | false => False
def opMax (sl : Sl) (o : Oper) (args : List Operand) (k : Kt) : Prop := match args with
 | [x, y] => match ev sl x, ev sl y with
  | .ex (.int kk a), .ex (.int _ b) => k (.ex (.int kk (if b > a then b else a))) [] 0
  | _, _ => opFall P sl o k
 | _ => opFall P sl o k
def opMin (sl : Sl) (o : Oper) (args : List Operand) (k : Kt) : Prop := match args with
 | [x, y] => match ev sl x, ev sl y with
  | .ex (.int kk a), .ex (.int _ b) => k (.ex (.int kk (if b < a then b else a))) [] 0
  | _, _ => opFall P sl o k
 | _ => opFall P sl o k
def opBuildA (sl : Sl) (o : Oper) (t : TypeId) (parts : List (Nat × Operand)) (k : Kt) : Prop := match P.underlying t with
 | some (.array _ _) => exOnly sl o.op.operands.toList = true ∧ ∃ v, semPure P (execOp (rho sl) o) = some (.value v) ∧ k (.ex v) [] 0
 | _ => opBuild P sl t parts k
def opConvert (sl : Sl) (h : Hp) (nx : Nat) (o : Oper) (src dst : TypeId) (x : Operand) (k : Kt) : Prop := match P.underlying src, P.underlying dst with
 | some .string, some (.slice e) => match P.underlying e, ev sl x with
  | some (.int .u8), .ex (.string s) => match Nat.beq 1 (sizeT P e) with
   | true => s.size ≤ 4611686018427387904 ∧ k (.sl nx s.size) [(nx, some ⟨bytesA s.data.toList, some e, false, true⟩)] 1
   | false => False
  | _, _ => False
 | some (.slice e), some .string => match P.underlying e with
  | some (.int .u8) => match readS h (ev sl x) with
   | some (n, cs, _) => ∃ l : List UInt8, (cs = bytesA l ∧ n = l.length) ∧ k (.ex (.string ⟨l.toArray⟩)) [] 0
   | none => False
  | _ => False
 | some _, some (.int k2) => match ev sl x with
  | .ex (.int _ a) => ∃ z, k2.wrap a = z ∧ k (.ex (.int k2 z)) [] 0
  | _ => opFall P sl o k
 | _, _ => opFall P sl o k
def isNilP : AV → Bool
 | .ex (.pointer none) => true
 | _ => false
def ptB : AV → Option Bool
 | .pt b _ => some b
 | _ => none
def isNilF : AV → Bool
 | .ex .nilFunc => true
 | _ => false
def isSomeF : AV → Bool
 | .clo _ _ => true
 | _ => false
def isSomeP : AV → Bool
 | .ptr _ _ => true
 | .vp _ _ => true
 | .vq _ _ => true
 | _ => false
def eqVal (P : Program) (t : TypeId) (x y : Value) : Option Bool := match P.underlying t with
 | some (.int _) => match x, y with
  | .int k a, .int k' b => match decide (k = k') with
   | true => some (a == b)
   | false => none
  | _, _ => none
 | some .string => match x, y with
  | .string a, .string b => some (a.toList == b.toList)
  | _, _ => none
 | some .bool => match x, y with
  | .bool a, .bool b => some (a == b)
  | _, _ => none
 | _ => none
def eqFs (P : Program) (xs ys : List Value) : List Field → Option Bool
 | [] => some true
 | f :: l => match xs[f.offset]?, ys[f.offset]? with
  | some a, some b => match eqVal P f.type a b, eqFs P xs ys l with
   | some p, some q => some (p && q)
   | _, _ => none
  | _, _ => none
def eqT (P : Program) (t : TypeId) : Bool := match P.underlying t with
 | some (.struct fs) => fs.toList.all (fun f => f.name != "_") && (!P.stoodInHeld t && !P.eqGuardType P.depth t)
 | _ => false
def opEqS (P : Program) (t : TypeId) (fs : List Field) (a b : AV) (neg : Bool) (k : Kt) (fall : Prop) : Prop := match a, b with
 | .ex (.agg us), .ex (.agg vs) => match eqFs P us.toList vs.toList fs with
  | some r => eqT P t = true ∧ k (.ex (.bool (match neg with
   | true => !r
   | false => r))) [] 0
  | none => fall
 | _, _ => fall
def opBin (sl : Sl) (o : Oper) (op : BinOp) (t : TypeId) (x y : Operand) (k : Kt) : Prop := match op, ev sl x, ev sl y with
 | .add, .ex (.int .i64 a), .ex (.int .i64 b) => inR (a + b) ∧ k (.ex (.int .i64 (a + b))) [] 0
 | .sub, .ex (.int .i64 a), .ex (.int .i64 b) => inR (a - b) ∧ k (.ex (.int .i64 (a - b))) [] 0
 | .mul, .ex (.int .i64 a), .ex (.int .i64 b) => inR (a * b) ∧ k (.ex (.int .i64 (a * b))) [] 0
 | .quo, .ex (.int .i64 a), .ex (.int .i64 b) => (0 ≤ a ∧ 0 < b ∧ inR a) ∧ k (.ex (.int .i64 (a / b))) [] 0
 | .rem, .ex (.int .i64 a), .ex (.int .i64 b) => (0 ≤ a ∧ 0 < b) ∧ k (.ex (.int .i64 (a % b))) [] 0
 | .quo, .ex (.int .u64 a), .ex (.int .u64 b) => (0 ≤ a ∧ a < 18446744073709551616 ∧ 0 < b) ∧ k (.ex (.int .u64 (a / b))) [] 0
 | .rem, .ex (.int .u64 a), .ex (.int .u64 b) => (0 ≤ a ∧ 0 < b) ∧ k (.ex (.int .u64 (a % b))) [] 0
 | .shr, .ex (.int kk a), .ex (.int _ b) => 0 ≤ b ∧ k (.ex (.int kk (a.fdiv (2 ^ (min b.toNat kk.bits))))) [] 0
 | .shl, .ex (.int kk a), .ex (.int _ b) => 0 ≤ b ∧ k (.ex (.int kk (kk.wrap (a * 2 ^ (min b.toNat kk.bits))))) [] 0
 | .add, .ex (.string a), .ex (.string b) => a.size + b.size ≤ 9223372036854775807 ∧ k (.ex (.string (a ++ b))) [] 0
 | .add, .ex (.int kk a), .ex (.int k2 b) => match decide (kk = k2) with
  | true => ∃ z, kk.wrap (a + b) = z ∧ k (.ex (.int kk z)) [] 0
  | false => False
 | .sub, .ex (.int kk a), .ex (.int k2 b) => match decide (kk = k2) with
  | true => ∃ z, kk.wrap (a - b) = z ∧ k (.ex (.int kk z)) [] 0
  | false => False
 | .mul, .ex (.int kk a), .ex (.int k2 b) => match decide (kk = k2) with
  | true => ∃ z, kk.wrap (a * b) = z ∧ k (.ex (.int kk z)) [] 0
  | false => False
 | .eql, a, b => match P.underlying t with
  | some (.struct fs) => opEqS P t fs.toList a b false k (opFall P sl o k)
  | some (.pointer _) => match ptB a, isNilP b with
   | some b, true => k (.ex (.bool (!b))) [] 0
   | _, _ => match isNilP a, isSomeP b, isSomeP a, isNilP b with
    | true, true, _, _ => k (.ex (.bool false)) [] 0
    | _, _, true, true => k (.ex (.bool false)) [] 0
    | _, _, _, _ => opFall P sl o k
  | some (.func _ _ _) => match isNilF a, isSomeF b, isSomeF a, isNilF b with
   | true, true, _, _ => k (.ex (.bool false)) [] 0
   | _, _, true, true => k (.ex (.bool false)) [] 0
   | _, _, _, _ => opFall P sl o k
  | _ => opFall P sl o k
 | .neq, a, b => match P.underlying t with
  | some (.struct fs) => opEqS P t fs.toList a b true k (opFall P sl o k)
  | some (.pointer _) => match ptB a, isNilP b with
   | some b, true => k (.ex (.bool (b))) [] 0
   | _, _ => match isNilP a, isSomeP b, isSomeP a, isNilP b with
    | true, true, _, _ => k (.ex (.bool true)) [] 0
    | _, _, true, true => k (.ex (.bool true)) [] 0
    | _, _, _, _ => opFall P sl o k
  | some (.func _ _ _) => match isNilF a, isSomeF b, isSomeF a, isNilF b with
   | true, true, _, _ => k (.ex (.bool true)) [] 0
   | _, _, true, true => k (.ex (.bool true)) [] 0
   | _, _, _, _ => opFall P sl o k
  | _ => opFall P sl o k
 | _, _, _ => opFall P sl o k
def evL (sl : Sl) : List Operand → List AV
 | [] => []
 | x :: l => ev sl x :: evL sl l
def opClo (sl : Sl) (h : Hp) (fn : Fn) (first cap : List Operand) (k : Kt) : Prop := match fn, first with
 | .func f, [x] => match ev sl x, cap with
  | .ptr r 0, [] => k (.bm f r) [] 0
  | _, _ => False
 | .func f, [] => match packVs h (evL sl cap) with
  | some (vs, fr) => forceCs vs fun vs => k (.clo f vs) (freezes h fr) 0
  | none => False
 | _, _ => False
def opCallV (sl : Sl) (h : Hp) (nx : Nat) (f : Operand) (args : List Operand) (k : Kt) : Prop := match ev sl f with
 | .clo f cap => match packVs h (evL sl args) with
  | some (vs, fr) => forceCs vs fun vs => ∃ r, Sound f (vs ++ cap) r ∧ (match unpack nx r with
    | (v, d, n) => k v (d ++ freezes h fr) n)
  | none => False
 | .ex (.func (.func f) fst cap) => match fst.toList, cap.toList with
  | [], [] => match packVs h (evL sl args) with
   | some (vs, fr) => forceCs vs fun vs => ∃ r, Sound f vs r ∧ (match unpack nx r with
     | (v, d, n) => k v (d ++ freezes h fr) n)
   | none => False
  | _, _ => False
 | _ => False
def idsC : AV → List Nat
 | .bm _ r => [r]
 | .ptr r _ => [r]
 | .sl r _ => [r]
 | _ => []
def idsL : List AV → List Nat
 | [] => []
 | v :: l => idsC v ++ idsL l
def elemN (r : Nat) : List Nat → Bool
 | [] => false
 | q :: l => match Nat.beq q r with
  | true => true
  | false => elemN r l
def idx (r : Nat) : List Nat → Nat → Option Nat
 | [], _ => none
 | q :: l, i => match Nat.beq q r with
  | true => some i
  | false => idx r l (i + 1)
def collect (h : Hp) : Nat → List Nat → List Nat → List Nat
 | 0, _, acc => acc
 | _ + 1, [], acc => acc
 | n + 1, r :: todo, acc => match elemN r acc with
  | true => collect h n todo acc
  | false => match blkOf h r with
   | some ⟨cs, _, _, false⟩ => collect h n (todo ++ idsL cs) (acc ++ [r])
   | some ⟨_, _, _, true⟩ => collect h n todo (acc ++ [r])
   | none => collect h n todo acc
def renC (acc : List Nat) : AV → AV
 | .bm f r => match idx r acc 0 with
  | some i => .bm f i
  | none => .unk
 | .ptr r o => match idx r acc 0 with
  | some i => .ptr i o
  | none => .unk
 | .sl r n => match idx r acc 0 with
  | some i => .sl i n
  | none => .unk
 | .ex v => .ex v
 | .vs n cs => .vs n cs
 | .vf n cs => .vf n cs
 | .clo f cs => .clo f cs
 | .pt b cs => .pt b cs
 | .vp cs o => .vp cs o
 | .vq cs o => .vq cs o
 | _ => .unk
def renL (acc : List Nat) : List AV → List AV
 | [] => []
 | v :: l => renC acc v :: renL acc l
def renV (acc : List Nat) : AV → AV
 | .agg cs => .agg (renL acc cs)
 | v => renC acc v
def liveB (acc : List Nat) (h : Hp) : List Nat → List ABlk
 | [] => []
 | r :: l => match blkOf h r with
  | some ⟨cs, el, fz, true⟩ => ⟨cs, el, fz, true⟩ :: liveB acc h l
  | some ⟨cs, el, fz, false⟩ => ⟨renL acc cs, el, fz, false⟩ :: liveB acc h l
  | none => liveB acc h l
def nodupN : List Nat → Bool
 | [] => true
 | r :: l => !elemN r l && nodupN l
/-! ### calls that write to what their arguments reach -/
def idsVs : List AV → List Nat
 | [] => []
 | v :: l => idsL v.cells ++ idsVs l
def renVL (acc : List Nat) : List AV → List AV
 | [] => []
 | v :: l => renV acc v :: renVL acc l
def backIds : List AV → List AV → List (Nat × Nat)
 | a :: l, b :: l' => match a, b with
  | .ptr r _, .ptr i _ => (i, r) :: backIds l l'
  | _, _ => backIds l l'
 | _, _ => []
def rhoM (m : List (Nat × Nat)) (nx i : Nat) : Nat := match look m i with
 | some r => r
 | none => nx + i
def rhoC (m : List (Nat × Nat)) (nx : Nat) : AV → AV
 | .bm f i => .bm f (rhoM m nx i)
 | .ptr i o => .ptr (rhoM m nx i) o
 | .sl i n => match look m i with
  | some _ => .unk
  | none => .sl (nx + i) n
 | .ex v => .ex v
 | .vs n cs => .vs n cs
 | .vf n cs => .vf n cs
 | .clo f cs => .clo f cs
 | .pt b cs => .pt b cs
 | .vp cs o => .vp cs o
 | .vq cs o => .vq cs o
 | _ => .unk
def rhoL (m : List (Nat × Nat)) (nx : Nat) : List AV → List AV
 | [] => []
 | v :: l => rhoC m nx v :: rhoL m nx l
def rhoV (m : List (Nat × Nat)) (nx : Nat) : AV → AV
 | .agg cs => .agg (rhoL m nx cs)
 | v => rhoC m nx v
def rhoVL (m : List (Nat × Nat)) (nx : Nat) : List AV → List AV
 | [] => []
 | v :: l => rhoV m nx v :: rhoVL m nx l
def rhoR (m : List (Nat × Nat)) (nx : Nat) : AV → AV
 | .tup vs => .tup (rhoVL m nx vs)
 | v => rhoV m nx v
def rhoB (m : List (Nat × Nat)) (nx : Nat) : ABlk → ABlk
 | ⟨cs, el, fz, true⟩ => ⟨cs, el, fz, true⟩
 | ⟨cs, el, fz, false⟩ => ⟨rhoL m nx cs, el, fz, false⟩
def backB (m : List (Nat × Nat)) (nx : Nat) : Nat → List ABlk → Hp
 | _, [] => []
 | i, b :: l => match look m i, b.el with
  | some r, none => (r, some (rhoB m nx b)) :: backB m nx (i + 1) l
  | some r, some _ => (r, none) :: backB m nx (i + 1) l
  | none, _ => (nx + i, some (rhoB m nx b)) :: backB m nx (i + 1) l
def dropB : List Nat → Hp
 | [] => []
 | r :: l => (r, none) :: dropB l
def isMut (sl : Sl) (f : Operand) : Bool := match ev sl f with
 | .ex (.func (.func fid) _ _) => mutF fid
 | .bm _ _ => true
 | _ => false
def calleeM : AV → Option (FuncId × List AV)
 | .ex (.func (.func fid) fst cap) => match fst.toList, cap.toList with
  | [], [] => some (fid, [])
  | _, _ => none
 | .bm f r => some (f, [.ptr r 0])
 | _ => none
def opCallM (sl : Sl) (h : Hp) (nx : Nat) (f : Operand) (args : List Operand) (k : Kt) : Prop := match calleeM (ev sl f) with
 | some (fid, pre) => forceL (collect h 40 (idsVs (pre ++ evL sl args)) []) fun acc => match nodupN acc, Nat.beq (liveB acc h acc).length acc.length with
  | true, true => forceCs (renVL acc (pre ++ evL sl args)) fun as => forceBs (liveB acc h acc) fun bl => ∃ rargs r bs', SoundM P fid as bl rargs r bs' ∧
    forceT (rhoR (backIds (pre ++ evL sl args) rargs) nx r) fun v => forceH (backB (backIds (pre ++ evL sl args) rargs) nx 0 bs' ++ dropB acc) fun d => k v d bs'.length
  | _, _ => False
 | none => False
def opCall (sl : Sl) (h : Hp) (nx : Nat) (o : Oper) (c : Call) (k : Kt) : Prop := match c.callee with
 | .value f => match isMut sl f with
  | true => opCallM P sl h nx f c.args.toList k
  | false => opCallV Sound sl h nx f c.args.toList k
 | .builtin .len => match c.args.toList, c.argTypes.toList with
  | [x], [t] => opLen P sl t x k
  | _, _ => False
 | .builtin .append => match c.args.toList, c.argTypes.toList with
  | [s, x], [t, tx] => opAppend P sl h nx t tx s x k
  | _, _ => False
 | .builtin .copy => match c.args.toList, c.argTypes.toList with
  | [d, x], [t, tx] => opCopy P sl h t tx d x k
  | _, _ => False
 | .builtin .max => opMax P sl o c.args.toList k
 | .builtin .min => opMin P sl o c.args.toList k
 | _ => False
def aop (o : Oper) (sl : Sl) (h : Hp) (nx : Nat) (k : Kt) : Prop := match o.op with
 | .move x => k (ev sl x) [] 0
 | .assign x => k (ev sl x) [] 0
 | .pick c a b => opPick sl c a b k
 | .alloc t => opAlloc P nx t k
 | .box _ x => opBox sl nx x k
 | .load t a => opLoad P sl h t a k
 | .store t a x => opStore P sl h t a x k
 | .fieldAddr t x f => opFieldAddr P sl t x f k
 | .nilCheck x => opNilCheck sl x k
 | .indexAddr t x i => opIndexAddr P sl h t x i k
 | .extract t i => opExtract sl t i k
 | .buildSlice t n ps => opBuildSlice P sl nx t n ps.toList k
 | .build t ps => opBuildA P sl o t ps.toList k
 | .field t x f => opField P sl t x f k
 | .index t x i => opIndex P sl t x i k
 | .slice t x lo hi mx => opSlice P sl h t x lo hi mx k
 | .makeSlice t n c => opMake P sl nx t n c k
 | .makeFunc fn fst cap => opClo sl h fn fst.toList cap.toList k
 | .convert src dst x => opConvert P sl h nx o src dst x k
 | .binOp op t x y _ => opBin P sl o op t x y k
 | .unOp _ _ _ => opFall P sl o k
 | .call c => opCall P Sound sl h nx o c k
 | _ => False
end
section
def OpOk (P : Program) (o : Oper) (sl : Sl) (h : Hp) (nx : Nat) (v : AV) (d : Hp) (n : Nat) : Prop :=
 ∀ (w0 : Ori) (F0 : Nat → Nat → Prop) (m : Fr) (D : Nat → Prop) (p : Nat → Option Nat) (c : Nat → Nat) (F : Nat → Nat → Prop) (slots : Sl) (heap : Hp) (a : Act) (w : World)
  (next : Act → World → Prop) (Q : Exit → Act → World → Prop),
  Rel P w0 F0 m D p c F slots heap a w → (∀ x, Rep w p c F D (ev sl x) (a.eval x)) → (∀ r b, blkOf h r = some b → look heap r = some (some b)) →
  (∀ i, nx ≤ i → i < nx + n → ¬ D i) →
  (∀ x w' D' p' c' F', Rel P w0 F0 m D' p' c' F' slots (d ++ heap) a w' → Rep w' p' c' F' D' v x → (∀ i, D' i ↔ D i ∨ (nx ≤ i ∧ i < nx + n)) → next (a.put o.dst x) w') →
  o.wp P a w next Q
section
variable {P : Program} {o : Oper} {a : Act} {w w' : World} {next : Act → World → Prop} {Q : Exit → Act → World → Prop} {x : Value}
theorem wp_value (h : (execOp a.eval o).run P w = .ok (.value x) w') (k : next (a.put o.dst x) w') : o.wp P a w next Q := by
 unfold Oper.wp; rw [h]; exact k
theorem wp_skipped (h : (execOp a.eval o).run P w = .ok .skip w') (k : next (a.put o.dst undef) w') : o.wp P a w next Q := by
 unfold Oper.wp; rw [h]; exact k
theorem okQuiet {sl : Sl} {h : Hp} {nx : Nat} {v : AV} (hr : ∀ (w : World) (p : Nat → Option Nat) (c : Nat → Nat) (F : Nat → Nat → Prop) (D : Nat → Prop) (a : Act),
  (∀ x, Rep w p c F D (ev sl x) (a.eval x)) → ∃ x, (execOp a.eval o).run P w = .ok (.value x) w ∧ Rep w p c F D v x) : OpOk P o sl h nx v [] 0 := by
 intro w0 F0 m D p c F slots heap a w next Q hrel hev _ _ hk
 obtain ⟨x, h1, h2⟩ := hr w p c F D a hev
 exact wp_value h1 (hk x w D p c F hrel h2 fun i => ⟨.inl, fun h => by rcases h with h | h; exact h; omega⟩)
theorem okRead {sl : Sl} {h : Hp} {nx : Nat} {v : AV} (hr : ∀ (w : World) (p : Nat → Option Nat) (c : Nat → Nat) (F : Nat → Nat → Prop) (D : Nat → Prop) (a : Act),
  (∀ x, Rep w p c F D (ev sl x) (a.eval x)) → (∀ r b, blkOf h r = some b → D r ∧ BlkOk P w D p c F r b) → ∃ x, (execOp a.eval o).run P w = .ok (.value x) w ∧ Rep w p c F D v x) : OpOk P o sl h nx v [] 0 := by
 intro w0 F0 m D p c F slots heap a w next Q hrel hev hh _ hk
 obtain ⟨x, h1, h2⟩ := hr w p c F D a hev fun r b hb => hrel.live r b (hh r b hb)
 exact wp_value h1 (hk x w D p c F hrel h2 fun i => ⟨.inl, fun h => by rcases h with h | h; exact h; omega⟩)
end
theorem blk_look {h : Hp} {r : Nat} {b : ABlk} (e : blkOf h r = some b) : look h r = some (some b) := by
 unfold blkOf at e
 split at e
 ·rename_i b' hb; injection e with e; subst e; exact hb
 ·cases e
section
variable {w : World} {D : Nat → Prop} {p : Nat → Option Nat} {c : Nat → Nat} {F : Nat → Nat → Prop} {slots : Sl} {heap : Hp} {a : Act} {P : Program} {w0 : Ori} {F0 : Nat → Nat → Prop} {m : Fr}
theorem Rel.ev_ (h : Rel P w0 F0 m D p c F slots heap a w) (x : Operand) : Rep w p c F D (ev slots x) (a.eval x) := by
 cases x with
 | tmp t =>
  simp only [ev, slotOf]
  cases hl : look slots t with
  | none => exact .unk _ _
  | some v => exact h.slots t v hl
 | const v => exact .ex _ v
 | global g => exact .unk _ _
 | func f => exact .ex _ _
theorem Rep.ex_inv {v x : Value} (h : Rep w p c F D (.ex v) x) : x = v := by cases h; rfl
theorem Rep.ptr_inv {r off : Nat} {x : Value} (h : Rep w p c F D (.ptr r off) x) : ∃ g, D r ∧ p r = some g ∧ x = .pointer (some ⟨g, off, none⟩) := by
 cases h with | ptr D r off g hd hp => exact ⟨g, hd, hp, rfl⟩
theorem Rep.sl_inv {r n : Nat} {x : Value} (h : Rep w p c F D (.sl r n) x) : D r ∧ n ≤ c r ∧ x = .slice ((p r).map fun g => ⟨g, 0, none⟩) n (c r) := by
 cases h with | sl D r n hd hn => exact ⟨hd, hn, rfl⟩
def Win (w : World) (p : Nat → Option Nat) (c : Nat → Nat) (F : Nat → Nat → Prop) (g o : Nat) (cs : List AV) (u : Nat → Value) : Prop :=
 (∀ j, j < cs.length → F g (o + j) ∧ w.cell? ⟨g, o + j, none⟩ = some (u j)) ∧ ∀ j (h : j < cs.length), Rep w p c F noD cs[j] (u j)
theorem Rep.vs_inv {n : Nat} {cs : List AV} {x : Value} (h : Rep w p c F D (.vs n cs) x) :
  (n = 0 ∧ cs = [] ∧ ∃ a, x = .slice a 0 0) ∨ ∃ g o k u, n ≤ k ∧ x = .slice (some ⟨g, o, none⟩) n k ∧ Win w p c F g o cs u := by
 cases h with
 | vnil => exact .inl ⟨rfl, rfl, _, rfl⟩
 | vs D n cs g o k u hk hc hr => exact .inr ⟨g, o, k, u, hk, rfl, hc, hr⟩
theorem Rep.vf_inv {n : Nat} {cs : List AV} {x : Value} (h : Rep w p c F D (.vf n cs) x) :
  (n = 0 ∧ cs = [] ∧ ∃ a, x = .slice a 0 0) ∨ ∃ g o u, x = .slice (some ⟨g, o, none⟩) n n ∧ Win w p c F g o cs u := by
 cases h with
 | fnil => exact .inl ⟨rfl, rfl, _, rfl⟩
 | vf D n cs g o u hc hr => exact .inr ⟨g, o, u, rfl, hc, hr⟩
theorem Rep.bm_inv {f : FuncId} {r : Nat} {x : Value} (h : Rep w p c F D (.bm f r) x) : ∃ g, D r ∧ p r = some g ∧ x = .func (.func f) #[.pointer (some ⟨g, 0, none⟩)] #[] := by
 cases h with | bm D f r g h1 h2 => exact ⟨g, h1, h2, rfl⟩
theorem Rep.clo_inv {f : FuncId} {cs : List AV} {x : Value} (h : Rep w p c F D (.clo f cs) x) : ∃ us, x = .func (.func f) #[] us ∧ us.size = cs.length ∧ ∀ j (h : j < cs.length), Rep w p c F noD cs[j] (us.getD j undef) := by
 cases h with | clo D f cs us h1 h2 => exact ⟨us, rfl, h1, h2⟩
theorem Rep.pt_inv {b : Bool} {cs : List AV} {x : Value} (h : Rep w p c F D (.pt b cs) x) : (b = false ∧ x = .pointer none) ∨ (b = true ∧ ∃ g o u, x = .pointer (some ⟨g, o, none⟩) ∧ Win w p c F g o cs u) := by
 cases h with
 | pt0 => exact .inl ⟨rfl, rfl⟩
 | pt1 D cs g o u hc hr => exact .inr ⟨rfl, g, o, u, rfl, hc, hr⟩
theorem Rep.pt_true {cs : List AV} {x : Value} (h : Rep w p c F D (.pt true cs) x) : ∃ g o u, x = .pointer (some ⟨g, o, none⟩) ∧ Win w p c F g o cs u := by
 rcases h.pt_inv with ⟨h, _⟩ | ⟨_, h⟩
 ·cases h
 ·exact h
theorem Rep.vp_inv {off : Nat} {cs : List AV} {x : Value} (h : Rep w p c F D (.vp cs off) x) : ∃ g o u, x = .pointer (some ⟨g, o + off, none⟩) ∧ Win w p c F g o cs u := by
 cases h with | vp D cs off g o u hc hr => exact ⟨g, o, u, rfl, hc, hr⟩
theorem Rep.vq_inv {off : Nat} {cs : List AV} {x : Value} (h : Rep w p c F D (.vq cs off) x) : ∃ g o u, x = .pointer (some ⟨g, o + off, none⟩) ∧ Win w p c F g o cs u := by
 cases h with | vq D cs off g o u hc hr => exact ⟨g, o, u, rfl, hc, hr⟩
theorem Rep.agg_inv {cs : List AV} {x : Value} (h : Rep w p c F D (.agg cs) x) : ∃ us, x = .agg us ∧ us.size = cs.length ∧ ∀ j (h : j < cs.length), Rep w p c F D cs[j] (us.getD j undef) := by
 cases h with | agg D cs us h1 h2 => exact ⟨us, rfl, h1, h2⟩
theorem Rep.tup_inv {cs : List AV} {x : Value} (h : Rep w p c F D (.tup cs) x) : ∃ us, x = .tuple us ∧ us.size = cs.length ∧ ∀ j (h : j < cs.length), Rep w p c F D cs[j] (us.getD j undef) := by
 cases h with | tup D cs us h1 h2 => exact ⟨us, rfl, h1, h2⟩
theorem exAll_spec : ∀ {cs : List AV} {vs : List Value}, exAll cs = some vs → cs = vs.map .ex
 | [], vs, h => by simp [exAll] at h; subst h; rfl
 | .ex v :: l, vs, h => by
  unfold exAll at h
  cases hl : exAll l with
  | none => simp [hl] at h
  | some us => simp [hl] at h; subst h; simp [exAll_spec hl]
 | .unk :: l, vs, h => by simp [exAll] at h
 | .ob _ :: l, vs, h => by simp [exAll] at h
 | .ptr _ _ :: l, vs, h => by simp [exAll] at h
 | .sl _ _ :: l, vs, h => by simp [exAll] at h
 | .vs _ _ :: l, vs, h => by simp [exAll] at h
 | .vf _ _ :: l, vs, h => by simp [exAll] at h
 | .clo _ _ :: l, vs, h => by simp [exAll] at h
 | .bm _ _ :: l, vs, h => by simp [exAll] at h
 | .pt _ _ :: l, vs, h => by simp [exAll] at h
 | .vp _ _ :: l, vs, h => by simp [exAll] at h
 | .vq _ _ :: l, vs, h => by simp [exAll] at h
 | .own _ _ _ :: l, vs, h => by simp [exAll] at h
 | .agg _ :: l, vs, h => by simp [exAll] at h
 | .tup _ :: l, vs, h => by simp [exAll] at h
theorem Rep.mk {cs : List AV} {us : Array Value} (hs : us.size = cs.length) (hr : ∀ j (h : j < cs.length), Rep w p c F D cs[j] (us.getD j undef)) : Rep w p c F D (mkAgg cs) (.agg us) := by
 unfold mkAgg
 cases h : exAll cs with
 | none => exact .agg _ cs us hs hr
 | some vs =>
  have e := exAll_spec h
  have : us = vs.toArray := by
   apply Array.ext'
   apply List.ext_getElem?
   intro j
   by_cases hj : j < cs.length
   ·have h1 := hr j hj
    have e1 : cs[j] = .ex (vs[j]'(by rw [e] at hj; simpa using hj)) := by simp [e]
    rw [e1] at h1
    have h2 := h1.ex_inv
    have hj2 : j < vs.length := by rw [e] at hj; simpa using hj
    simp [hs, hj] at h2 ⊢
    first | done | exact h2 | (rw [h2, List.getElem?_eq_getElem hj2])
   ·have : vs.length = cs.length := by rw [e]; simp
    rw [List.getElem?_eq_none (by simp [hs]; omega), List.getElem?_eq_none (by simp; omega)]
  rw [this]; exact .ex _ _
theorem BlkOk.at {r g : Nat} {b : ABlk} (h : BlkOk P w D p c F r b) (hp : p r = some g) : ∃ (us : Array Value) (t : TypeId) (fr : Nat × Nat), w.heap[g]? = some (.cells us t fr) ∧ us.size ≤ fr.1 + (if fr.1 = fr.2 then us.size else 0) ∧ b.cells.length ≤ us.size ∧
   (∀ j (h : j < b.cells.length), Rep w p c F (if b.pu then noD else D) b.cells[j] (us.getD j undef)) ∧
   (∀ e, b.el = some e → t = e ∧ us.size = c r * sizeT P e ∧ c r ≤ 9223372036854775807) := by
 unfold BlkOk at h; rw [hp] at h; exact h
theorem Rep.pu {v : AV} {x : Value} {b : Bool} (h : Rep w p c F (if b then noD else D) v x) : Rep w p c F D v x := by
 cases b
 ·exact h
 ·exact h.of_no
theorem cell_at {g j : Nat} {us : Array Value} {t : TypeId} {fr : Nat × Nat} (h : w.heap[g]? = some (.cells us t fr)) (hj : j < us.size) : w.cell? ⟨g, j, none⟩ = some (us.getD j undef) := by
 simp [World.cell?, h, hj]
theorem frozen_at {g j : Nat} {us : Array Value} {t : TypeId} {fr : Nat × Nat} (h : w.heap[g]? = some (.cells us t fr)) (hf : us.size ≤ fr.1 + (if fr.1 = fr.2 then us.size else 0)) (hj : j < us.size) : w.frozen? ⟨g, j, none⟩ = false := by
 obtain ⟨lo, hi⟩ := fr
 simp only [World.frozen?, h]
 simp only at hf
 by_cases e : lo = hi
 ·subst e; simp; try omega
 ·rw [if_neg e] at hf
  simp; omega
theorem BlkOk.cell {r g : Nat} {b : ABlk} (h : BlkOk P w D p c F r b) (hp : p r = some g) {j : Nat} (hj : j < b.cells.length) :
  ∃ u, w.cell? ⟨g, j, none⟩ = some u ∧ Rep w p c F D b.cells[j] u := by
 obtain ⟨us, t, fr, k1, k2, k3, k4, k5⟩ := h.at hp
 exact ⟨_, cell_at k1 (by omega), (k4 j hj).pu⟩
/-! ### loads -/
theorem kind_false {t : TypeId} (h : kindT P t = some false) : (isAgg t).run P w = .ok false w := by
 unfold kindT at h
 unfold isAgg
 cases hd : P.underlying t with
 | none => rw [hd] at h; cases h
 | some d =>
  rw [hd] at h
  rw [Sem.run_bind, run_underlying hd w]
  cases d <;> simp_all
theorem kind_true {t : TypeId} (h : kindT P t = some true) : (isAgg t).run P w = .ok true w ∧ (sizeOf t).run P w = .ok (sizeT P t) w := by
 unfold kindT at h
 cases hd : P.underlying t with
 | none => rw [hd] at h; cases h
 | some d =>
  rw [hd] at h
  constructor
  ·unfold isAgg
   rw [Sem.run_bind, run_underlying hd w]
   cases d <;> simp_all
  ·have hi : ∃ i, P.info? t = some i := by
    unfold Program.underlying at hd
    cases hi : P.info? t with
    | none => rw [hi] at hd; cases hd
    | some i => exact ⟨i, rfl⟩
   obtain ⟨i, hi⟩ := hi
   simp [sizeOf, typeInfo, hi, sizeT]
theorem size_run {t : TypeId} (h : Nat.blt 0 (sizeT P t) = true) : (sizeOf t).run P w = .ok (sizeT P t) w ∧ sizeT P t ≠ 0 := by
 have h0 : 0 < sizeT P t := by
  have : 1 ≤ sizeT P t := by simpa [Nat.blt, Nat.ble_eq] using h
  omega
 refine ⟨?_, by omega⟩
 unfold sizeT at *
 cases hi : P.info? t with
 | none => rw [hi] at h0; simp at h0
 | some i => simp [sizeOf, typeInfo, hi]
theorem run_loadVar_one {t : TypeId} (hA : kindT P t = some false) {ad : Addr} {u : Value} (hc : w.cell? ad = some u) : (loadVar t ad).run P w = .ok u w := by
 simp [loadVar, kind_false hA, hc, run_load]
theorem run_loadVar_agg {t : TypeId} (hA : kindT P t = some true) {g o : Nat} {us : List Value} (hn : us.length = sizeT P t) (hc : ∀ j v, us[j]? = some v → w.cell? ⟨g, o + j, none⟩ = some v) :
  (loadVar t ⟨g, o, none⟩).run P w = .ok (.agg us.toArray) w := by
 have h3 := run_loadCells_list (P := P) w ⟨g, o, none⟩ us (fun j v hv => by rw [Addr.add_lit]; exact hc j v hv)
 obtain ⟨h1, h2⟩ := kind_true (w := w) hA
 rw [← hn] at h2
 simp [loadVar, h1, h2, h3]
def Cells (w : World) (p : Nat → Option Nat) (c : Nat → Nat) (F : Nat → Nat → Prop) (D : Nat → Prop) (g o : Nat) (cs : List AV) : Prop :=
 ∀ j (h : j < cs.length), ∃ u, w.cell? ⟨g, o + j, none⟩ = some u ∧ Rep w p c F D cs[j] u
theorem Win.cells {g o : Nat} {cs : List AV} {u : Nat → Value} (h : Win w p c F g o cs u) : Cells w p c F D g o cs :=
 fun j hj => ⟨u j, (h.1 j hj).2, (h.2 j hj).of_no⟩
theorem BlkOk.cells {r g : Nat} {b : ABlk} (h : BlkOk P w D p c F r b) (hp : p r = some g) : Cells w p c F D g 0 b.cells := fun j hj => by
 obtain ⟨u, h1, h2⟩ := h.cell hp hj
 exact ⟨u, by rw [Nat.zero_add]; exact h1, h2⟩
theorem Cells.list {g o off : Nat} {cs : List AV} (h : Cells w p c F D g o cs) : ∀ {vs : List AV}, (∀ j v, vs[j]? = some v → cs[off + j]? = some v) →
  ∃ us : List Value, us.length = vs.length ∧ (∀ j v, us[j]? = some v → w.cell? ⟨g, o + off + j, none⟩ = some v) ∧ ∀ j (h : j < vs.length), Rep w p c F D vs[j] (us.getD j undef) := by
 intro vs hv
 have : ∀ n, n ≤ vs.length → ∃ us : List Value, us.length = n ∧ (∀ j v, us[j]? = some v → w.cell? ⟨g, o + off + j, none⟩ = some v) ∧ ∀ j (h : j < vs.length), j < n → Rep w p c F D vs[j] (us.getD j undef) := by
  intro n
  induction n with
  | zero => intro _; exact ⟨[], rfl, fun j v h => by simp at h, fun j h h0 => absurd h0 (by omega)⟩
  | succ n ih =>
   intro hn
   obtain ⟨us, h1, h2, h3⟩ := ih (by omega)
   have hvn : vs[n]? = some vs[n] := List.getElem?_eq_getElem (by omega)
   have hc := hv n _ hvn
   obtain ⟨hlt, he⟩ := List.getElem?_eq_some_iff.1 hc
   obtain ⟨u, k1, k2⟩ := h (off + n) hlt
   refine ⟨us ++ [u], by simp [h1], fun j v hj => ?_, fun j hj hjn => ?_⟩
   ·by_cases e : j = n
    ·subst e
     rw [List.getElem?_append_right (by omega), h1] at hj
     simp at hj; subst hj
     rw [Nat.add_assoc]; exact k1
    ·have : j < n := by
      have := (List.getElem?_eq_some_iff.1 hj).1
      simp [h1] at this; omega
     rw [List.getElem?_append_left (by omega)] at hj
     exact h2 j v hj
   ·by_cases e : j = n
    ·subst e
     have : (us ++ [u]).getD j undef = u := by simp [List.getD, ← h1]
     rw [this, ← he]; exact k2
    ·have : (us ++ [u]).getD j undef = us.getD j undef := by
      simp only [List.getD]; rw [List.getElem?_append_left (by omega)]
     rw [this]; exact h3 j hj (by omega)
 obtain ⟨us, h1, h2, h3⟩ := this _ (Nat.le_refl _)
 exact ⟨us, h1, h2, fun j hj => h3 j hj hj⟩
theorem getD_toArray (us : List Value) (j : Nat) : us.toArray.getD j undef = us.getD j undef := by simp [List.getD]
theorem takeL_at {cs : List AV} {off k j : Nat} {v : AV} (h : (takeL cs off k)[j]? = some v) : cs[off + j]? = some v := by
 unfold takeL at h
 have hj := (List.getElem?_eq_some_iff.1 h).1
 rw [List.length_take] at hj
 rw [List.getElem?_take_of_lt (by omega), List.getElem?_drop] at h
 exact h
theorem loadA_ok {t : TypeId} {cs : List AV} {g o off : Nat} {k : AV → Prop} (hk : loadA P t cs off k) : ∃ v, k v ∧ ∀ (w : World) (D : Nat → Prop) (p : Nat → Option Nat) (c : Nat → Nat) (F : Nat → Nat → Prop) (g o : Nat), Cells w p c F D g o cs →
  ∃ x, (loadVar t ⟨g, o + off, none⟩).run P w = .ok x w ∧ Rep w p c F D v x := by
 unfold loadA at hk
 split at hk
 ·rename_i hA
  obtain ⟨hl, hk⟩ := hk
  rw [forceCs_eq, mkAggK_eq] at hk
  refine ⟨_, hk, fun w D p c F g o hc => ?_⟩
  obtain ⟨us, h1, h2, h3⟩ := hc.list (off := off) (vs := takeL cs off (sizeT P t)) (fun j v => takeL_at)
  have hn : (takeL cs off (sizeT P t)).length = sizeT P t := by unfold takeL; rw [List.length_take, List.length_drop]; omega
  exact ⟨_, run_loadVar_agg hA (h1.trans hn) h2, .mk (by simpa using h1) fun j hj => by rw [getD_toArray]; exact h3 j hj⟩
 ·rename_i hA
  split at hk
  ·rename_i v hv
   refine ⟨_, hk, fun w D p c F g o hc => ?_⟩
   obtain ⟨hlt, he⟩ := List.getElem?_eq_some_iff.1 hv
   obtain ⟨u, k1, k2⟩ := hc off hlt
   exact ⟨u, run_loadVar_one hA k1, he ▸ k2⟩
  ·exact hk.elim
 ·exact hk.elim
theorem loadE_ok {t : TypeId} {cs : List AV} {off : Nat} {k : AV → Prop} (hk : loadE P t cs off k) : ∃ v, k v ∧ ∀ (w : World) (D : Nat → Prop) (p : Nat → Option Nat) (c : Nat → Nat) (F : Nat → Nat → Prop) (g o : Nat), Cells w p c F D g o cs →
  ∃ x, (loadVar t ⟨g, o + off, none⟩).run P w = .ok x w ∧ Rep w p c F D v x := by
 unfold loadE at hk
 split at hk
 ·rename_i hA
  obtain ⟨vs, ⟨hn, hv⟩, hk⟩ := hk
  rw [mkAggK_eq] at hk
  refine ⟨_, hk, fun w D p c F g o hc => ?_⟩
  obtain ⟨us, h1, h2, h3⟩ := hc.list (off := off) hv
  exact ⟨_, run_loadVar_agg hA (h1.trans hn) h2, .mk (by simpa using h1) fun j hj => by rw [getD_toArray]; exact h3 j hj⟩
 ·rename_i hA
  obtain ⟨v, hv, hk⟩ := hk
  refine ⟨_, hk, fun w D p c F g o hc => ?_⟩
  obtain ⟨hlt, he⟩ := List.getElem?_eq_some_iff.1 hv
  obtain ⟨u, k1, k2⟩ := hc off hlt
  exact ⟨u, run_loadVar_one hA k1, he ▸ k2⟩
 ·exact hk.elim
end
section
variable {P : Program} {o : Oper} {sl : Sl} {h : Hp} {nx : Nat} {k : Kt}
abbrev Is (P : Program) (o : Oper) (sl : Sl) (h : Hp) (nx : Nat) (k : Kt) : Prop := ∃ v d n, OpOk P o sl h nx v d n ∧ k v d n
theorem ok_move {x : Operand} (ho : o.op = .move x) (hk : k (ev sl x) [] 0) : Is P o sl h nx k :=
 ⟨_, _, _, okQuiet fun w p c F D a hev => ⟨_, by simp [execOp, ho], hev x⟩, hk⟩
theorem ok_assign {x : Operand} (ho : o.op = .assign x) (hk : k (ev sl x) [] 0) : Is P o sl h nx k :=
 ⟨_, _, _, okQuiet fun w p c F D a hev => ⟨_, by simp [execOp, ho], hev x⟩, hk⟩
theorem ok_pick {x y z : Operand} (ho : o.op = .pick x y z) (hk : opPick sl x y z k) : Is P o sl h nx k := by
 unfold opPick at hk
 split at hk
 ·rename_i b hb
  cases b with
  | true => exact ⟨_, _, _, okQuiet fun w p c F D a hev => ⟨_, by have := (hb ▸ hev x : Rep w p c F D _ _).ex_inv; simp [execOp, ho, this, asBool], hev y⟩, hk⟩
  | false => exact ⟨_, _, _, okQuiet fun w p c F D a hev => ⟨_, by have := (hb ▸ hev x : Rep w p c F D _ _).ex_inv; simp [execOp, ho, this, asBool], hev z⟩, hk⟩
 ·exact hk.elim
theorem ok_load {t : TypeId} {x : Operand} (ho : o.op = .load t x) (hk : opLoad P sl h t x k) : Is P o sl h nx k := by
 have run : ∀ {w : World} {a : Act} {ad : Addr} {u : Value}, a.eval x = .pointer (some ad) → (loadVar t ad).run P w = .ok u w → (execOp a.eval o).run P w = .ok (.value u) w := by
  intro w a ad u h1 h2
  simp [execOp, ho, Instr.loadAt, Instr.sureAddr, h1, h2]
 unfold opLoad at hk
 split at hk
 ·rename_i r off hx
  split at hk
  ·rename_i cs fz pu hb
   obtain ⟨v, hv, hl⟩ := loadA_ok (g := 0) (o := 0) hk
   refine ⟨_, _, _, okRead fun w p c F D a hev hlive => ?_, hv⟩
   obtain ⟨g, hd, hp, he⟩ := (hx ▸ hev x : Rep w p c F D _ _).ptr_inv
   obtain ⟨u, h1, h2⟩ := hl w D p c F g 0 ((hlive r _ hb).2.cells hp)
   rw [Nat.zero_add] at h1
   exact ⟨u, run he h1, h2⟩
  ·rename_i cs e fz pu hb
   obtain ⟨v, hv, hl⟩ := loadE_ok hk
   refine ⟨_, _, _, okRead fun w p c F D a hev hlive => ?_, hv⟩
   obtain ⟨g, hd, hp, he⟩ := (hx ▸ hev x : Rep w p c F D _ _).ptr_inv
   obtain ⟨u, h1, h2⟩ := hl w D p c F g 0 ((hlive r _ hb).2.cells hp)
   rw [Nat.zero_add] at h1
   exact ⟨u, run he h1, h2⟩
  ·exact hk.elim
 ·rename_i cs off hx
  obtain ⟨v, hv, hl⟩ := loadA_ok (g := 0) (o := 0) hk
  refine ⟨_, _, _, okQuiet fun w p c F D a hev => ?_, hv⟩
  obtain ⟨g, q, u, he, hw⟩ := (hx ▸ hev x : Rep w p c F D _ _).vp_inv
  obtain ⟨u, h1, h2⟩ := hl w D p c F g q hw.cells
  exact ⟨u, run he h1, h2⟩
 ·rename_i cs off hx
  obtain ⟨v, hv, hl⟩ := loadE_ok hk
  refine ⟨_, _, _, okQuiet fun w p c F D a hev => ?_, hv⟩
  obtain ⟨g, q, u, he, hw⟩ := (hx ▸ hev x : Rep w p c F D _ _).vq_inv
  obtain ⟨u, h1, h2⟩ := hl w D p c F g q hw.cells
  exact ⟨u, run he h1, h2⟩
 ·rename_i b cs hx
  split at hk
  case h_2 => exact hk.elim
  obtain ⟨v, hv, hl⟩ := loadA_ok (g := 0) (o := 0) hk
  refine ⟨_, _, _, okQuiet fun w p c F D a hev => ?_, hv⟩
  obtain ⟨g, q, u, he, hw⟩ := (hx ▸ hev x : Rep w p c F D _ _).pt_true
  obtain ⟨u, h1, h2⟩ := hl w D p c F g q hw.cells
  exact ⟨u, run he h1, h2⟩
 ·exact hk.elim
theorem ok_fieldAddr {t : TypeId} {x : Operand} {f : Nat} (ho : o.op = .fieldAddr t x f) (hk : opFieldAddr P sl t x f k) : Is P o sl h nx k := by
 unfold opFieldAddr fieldOff at hk
 cases hu : P.underlying t with
 | none => rw [hu] at hk; exact hk.elim
 | some d =>
  rw [hu] at hk
  cases d
  case struct fs =>
   simp only at hk
   cases hf : fs[f]? with
   | none => rw [hf] at hk; exact hk.elim
   | some fd =>
    rw [hf] at hk
    simp only at hk
    cases hz : Nat.blt 0 (sizeT P fd.type) with
    | false => rw [hz] at hk; exact hk.elim
    | true =>
    rw [hz] at hk
    simp only at hk
    have run : ∀ {w : World} {a : Act} {g q : Nat}, a.eval x = .pointer (some ⟨g, q, none⟩) → (execOp a.eval o).run P w = .ok (.value (.pointer (some ⟨g, q + fd.offset, none⟩))) w := by
     intro w a g q h1
     obtain ⟨z1, z2⟩ := size_run (w := w) hz
     simp [execOp, ho, Instr.fieldAt, run_underlying hu, hf, Instr.sureAddr, h1, fieldPlace, Addr.add_lit, z1, z2]
    split at hk
    ·rename_i r off hx
     refine ⟨_, _, _, okQuiet fun w p c F D a hev => ?_, hk⟩
     obtain ⟨g, hd, hp, he⟩ := (hx ▸ hev x : Rep w p c F D _ _).ptr_inv
     exact ⟨_, run he, .ptr _ _ _ _ hd hp⟩
    ·rename_i cs off hx
     refine ⟨_, _, _, okQuiet fun w p c F D a hev => ?_, hk⟩
     obtain ⟨g, q, u, he, hw⟩ := (hx ▸ hev x : Rep w p c F D _ _).vp_inv
     exact ⟨_, run he, by rw [Nat.add_assoc]; exact .vp _ _ _ _ _ u hw.1 hw.2⟩
    ·rename_i cs off hx
     refine ⟨_, _, _, okQuiet fun w p c F D a hev => ?_, hk⟩
     obtain ⟨g, q, u, he, hw⟩ := (hx ▸ hev x : Rep w p c F D _ _).vq_inv
     exact ⟨_, run he, by rw [Nat.add_assoc]; exact .vq _ _ _ _ _ u hw.1 hw.2⟩
    ·rename_i b cs hx
     split at hk
     case h_2 => exact hk.elim
     refine ⟨_, _, _, okQuiet fun w p c F D a hev => ?_, hk⟩
     obtain ⟨g, q, u, he, hw⟩ := (hx ▸ hev x : Rep w p c F D _ _).pt_true
     exact ⟨_, run he, by rw [Nat.zero_add]; exact .vp _ _ _ _ _ u hw.1 hw.2⟩
    ·exact hk.elim
  all_goals exact hk.elim
theorem ok_nilCheck {x : Operand} (ho : o.op = .nilCheck x) (hk : opNilCheck sl x k) : Is P o sl h nx k := by
 unfold opNilCheck at hk
 split at hk
 ·rename_i r off hx
  refine ⟨_, _, _, okQuiet fun w p c F D a hev => ?_, hk⟩
  have h0 := (hx ▸ hev x : Rep w p c F D _ _)
  obtain ⟨g, hd, hp, he⟩ := h0.ptr_inv
  exact ⟨a.eval x, by simp [execOp, ho, he], h0⟩
 ·rename_i cs off hx
  refine ⟨_, _, _, okQuiet fun w p c F D a hev => ?_, hk⟩
  have h0 := (hx ▸ hev x : Rep w p c F D _ _)
  obtain ⟨g, q, u, he, hw⟩ := h0.vp_inv
  exact ⟨a.eval x, by simp [execOp, ho, he], h0⟩
 ·rename_i cs off hx
  refine ⟨_, _, _, okQuiet fun w p c F D a hev => ?_, hk⟩
  have h0 := (hx ▸ hev x : Rep w p c F D _ _)
  obtain ⟨g, q, u, he, hw⟩ := h0.vq_inv
  exact ⟨a.eval x, by simp [execOp, ho, he], h0⟩
 ·rename_i b cs hx
  split at hk
  case h_2 => exact hk.elim
  refine ⟨_, _, _, okQuiet fun w p c F D a hev => ?_, hk⟩
  have h0 := (hx ▸ hev x : Rep w p c F D _ _)
  obtain ⟨g, q, u, he, hw⟩ := h0.pt_true
  exact ⟨a.eval x, by simp [execOp, ho, he], h0⟩
 ·exact hk.elim
theorem ok_extract {x : Operand} {i : Nat} (ho : o.op = .extract x i) (hk : opExtract sl x i k) : Is P o sl h nx k := by
 unfold opExtract at hk
 split at hk
 ·rename_i vs hx
  split at hk
  ·rename_i v hv
   refine ⟨_, _, _, okQuiet fun w p c F D a hev => ?_, hk⟩
   obtain ⟨us, he, hs, hr⟩ := (hx ▸ hev x : Rep w p c F D _ _).tup_inv
   obtain ⟨hlt, hv'⟩ := List.getElem?_eq_some_iff.1 hv
   have h1 := hr i hlt
   have hi : i < us.size := by omega
   refine ⟨us[i], ?_, ?_⟩
   ·simp [execOp, ho, he, Instr.extract, hi]
   ·rw [hv'] at h1; simpa [hi] using h1
  ·exact hk.elim
 ·rename_i vs hx
  split at hk
  ·rename_i v hv
   refine ⟨_, _, _, okQuiet fun w p c F D a hev => ?_, hk⟩
   have he := (hx ▸ hev x : Rep w p c F D _ _).ex_inv
   exact ⟨v, by simp [execOp, ho, he, Instr.extract, hv], .ex _ _⟩
  ·exact hk.elim
 ·exact hk.elim
end
end
section
section
variable {P : Program} {w : World} {D : Nat → Prop} {p : Nat → Option Nat} {c : Nat → Nat} {F : Nat → Nat → Prop}
theorem Win.take {g o : Nat} {cs : List AV} {u : Nat → Value} (h : Win w p c F g o cs u) (i n : Nat) : Win w p c F g (o + i) (takeL cs i n) (fun j => u (i + j)) := by
 have hl : ∀ j, j < (takeL cs i n).length → i + j < cs.length := by
  intro j hj; unfold takeL at hj; rw [List.length_take, List.length_drop] at hj; omega
 refine ⟨fun j hj => ?_, fun j hj => ?_⟩
 ·have := h.1 (i + j) (hl j hj)
  rw [Nat.add_assoc]; exact this
 ·have := h.2 (i + j) (hl j hj)
  have e : (takeL cs i n)[j] = cs[i + j]'(hl j hj) := by
   have h1 := takeL_at (cs := cs) (off := i) (k := n) (List.getElem?_eq_getElem hj)
   rw [List.getElem?_eq_getElem (hl j hj)] at h1
   injection h1 with h1; exact h1.symm
  rw [e]; exact this
end
section
variable {P : Program} {o : Oper} {sl : Sl} {h : Hp} {nx : Nat} {k : Kt}
theorem ok_indexAddr {t : TypeId} {x y : Operand} (ho : o.op = .indexAddr t x y) (hk : opIndexAddr P sl h t x y k) : Is P o sl h nx k := by
 unfold opIndexAddr at hk
 split at hk
 ·rename_i e hu
  split at hk
  ·rename_i hz
   have hso := fun w => (size_run (P := P) (w := w) hz).1
   split at hk
   ·rename_i r n kk i hx hy
    split at hk
    ·rename_i b hb
     obtain ⟨hi, hk⟩ := hk
     refine ⟨_, _, _, okRead fun w p c F D a hev hl => ?_, hk⟩
     obtain ⟨hd, hn, he⟩ := (hx ▸ hev x : Rep w p c F D _ _).sl_inv
     have hy' := (hy ▸ hev y : Rep w p c F D _ _).ex_inv
     cases hp : p r with
     | none =>
      have := (hl r b hb).2
      unfold BlkOk at this
      rw [hp] at this
      have := this.2.1
      omega
     | some g =>
      refine ⟨.pointer (some ⟨g, mulS i.toNat (sizeT P e), none⟩), ?_, .ptr _ _ _ _ hd hp⟩
      simp [execOp, ho, Instr.indexAt, asIntOf, run_underlying hu, he, hp, hy', hi, hso, mulS_eq, Addr.add_lit]
    ·exact hk.elim
   ·rename_i n cs kk i hx hy
    obtain ⟨hi, hk⟩ := hk
    refine ⟨_, _, _, okQuiet fun w p c F D a hev => ?_, hk⟩
    have hy' := (hy ▸ hev y : Rep w p c F D _ _).ex_inv
    rcases (hx ▸ hev x : Rep w p c F D _ _).vs_inv with ⟨h0, _, _, _⟩ | ⟨g, q, kc, u, hn, he, hw⟩
    ·omega
    ·refine ⟨.pointer (some ⟨g, q + mulS i.toNat (sizeT P e), none⟩), ?_, .vq _ _ _ _ _ u hw.1 hw.2⟩
     simp [execOp, ho, Instr.indexAt, asIntOf, run_underlying hu, he, hy', hi, hso, mulS_eq, Addr.add_lit]
   ·rename_i n cs kk i hx hy
    obtain ⟨hi, hk⟩ := hk
    refine ⟨_, _, _, okQuiet fun w p c F D a hev => ?_, hk⟩
    have hy' := (hy ▸ hev y : Rep w p c F D _ _).ex_inv
    rcases (hx ▸ hev x : Rep w p c F D _ _).vf_inv with ⟨h0, _, _, _⟩ | ⟨g, q, u, he, hw⟩
    ·omega
    ·refine ⟨.pointer (some ⟨g, q + mulS i.toNat (sizeT P e), none⟩), ?_, .vq _ _ _ _ _ u hw.1 hw.2⟩
     simp [execOp, ho, Instr.indexAt, asIntOf, run_underlying hu, he, hy', hi, hso, mulS_eq, Addr.add_lit]
   ·exact hk.elim
  ·exact hk.elim
 ·rename_i n e hu
  split at hk
  ·rename_i hz
   have hso := fun w => (size_run (P := P) (w := w) hz).1
   split at hk
   ·rename_i r off kk i hx hy
    obtain ⟨hi, hk⟩ := hk
    refine ⟨_, _, _, okQuiet fun w p c F D a hev => ?_, hk⟩
    obtain ⟨g, hd, hp, he⟩ := (hx ▸ hev x : Rep w p c F D _ _).ptr_inv
    have hy' := (hy ▸ hev y : Rep w p c F D _ _).ex_inv
    refine ⟨_, ?_, .ptr _ _ _ _ hd hp⟩
    simp [execOp, ho, Instr.indexAt, asIntOf, run_underlying hu, he, hy', hi, hso, mulS_eq, Addr.add_lit, Instr.sureAddr]
   ·exact hk.elim
  ·exact hk.elim
 ·exact hk.elim
theorem semPure_run {α : Type} {s : Sem α} {v : α} (h : semPure P s = some v) (w : World) : s.run P w = .ok v w := by
 induction s with
 | pure a => simp [semPure] at h; subst h; rfl
 | program f ih => simp only [semPure] at h; exact ih _ h
 | mark m f ih => simp only [semPure] at h; exact ih h
 | _ => simp [semPure] at h
theorem exOnly_spec {sl : Sl} : ∀ {l : List Operand}, exOnly sl l = true → ∀ x ∈ l, ev sl x = .ex (rho sl x)
 | [], _, x, hx => by cases hx
 | o :: l, h, x, hx => by
  unfold exOnly at h
  cases ho : ev sl o with
  | ex v =>
   rw [ho] at h
   rcases List.mem_cons.1 hx with e | hx
   ·subst e; simp [rho, ho]
   ·exact exOnly_spec h x hx
  | _ => rw [ho] at h; simp at h
theorem ok_fall (hs : ∀ cs b, o.op ≠ .select cs b) (hk : opFall P sl o k) : Is P o sl h nx k := by
 unfold opFall at hk
 split at hk
 ·rename_i hx
  split at hk
  ·rename_i v hv
   refine ⟨_, _, _, okQuiet fun w p c F D a hev => ?_, hk⟩
   have e : execOp a.eval o = execOp (rho sl) o := execOp_congr o hs fun x hx' => by
    have := hev x
    rw [exOnly_spec hx x (by simpa using hx')] at this
    exact this.ex_inv
   exact ⟨v, by rw [e]; exact semPure_run hv w, .ex _ _⟩
  ·exact hk.elim
 ·exact hk.elim
theorem wrap_in {n : Int} (h : inR n) : IntKind.i64.wrap n = n := by
 unfold inR at h
 exact IntWalk.i64_in n h
theorem wrap_u (n : Int) (h0 : 0 ≤ n) (h1 : n < 18446744073709551616) : IntKind.u64.wrap n = n := by
 have : IntKind.u64.wrap n = n % 18446744073709551616 := by simp [IntKind.wrap, IntKind.bits, IntKind.signed]
 rw [this]; omega
theorem ok_bin_ex {op : BinOp} {t t' : TypeId} {x y : Operand} {u v r : Value} (ho : o.op = .binOp op t x y t') (hx : ev sl x = .ex u) (hy : ev sl y = .ex v)
  (hg : op ≠ .eql ∧ op ≠ .neq) (hr : ∀ w, (binOp op t u v).run P w = .ok r w) (hk : k (.ex r) [] 0) : Is P o sl h nx k := by
 refine ⟨_, _, _, okQuiet fun w p c F D a hev => ⟨r, ?_, .ex _ _⟩, hk⟩
 have h1 := (hx ▸ hev x : Rep w p c F D _ _).ex_inv
 have h2 := (hy ▸ hev y : Rep w p c F D _ _).ex_inv
 have hq : (eqGuard op t x y u v).run P w = .ok () w := by
  cases op <;> simp_all [eqGuard]
 simp [execOp, ho, h1, h2, hq, hr]
theorem bin_fall {op : BinOp} {t t' : TypeId} {x y : Operand} (ho : o.op = .binOp op t x y t') (hk : opFall P sl o k) : Is P o sl h nx k :=
 ok_fall (by intro cs b hh; rw [ho] at hh; cases hh) hk
theorem eq_nil1 {t e : TypeId} (hu : P.underlying t = some (.pointer e)) (d : Nat) (ad : Addr) (w : World) : (Op.equalIn (d + 1) t (.pointer none) (.pointer (some ad))).run P w = .ok false w := by
 simp [Op.equalIn, run_underlying hu]
theorem eq_nil2 {t e : TypeId} (hu : P.underlying t = some (.pointer e)) (d : Nat) (ad : Addr) (w : World) : (Op.equalIn (d + 1) t (.pointer (some ad)) (.pointer none)).run P w = .ok false w := by
 simp [Op.equalIn, run_underlying hu]
theorem bin_nil {op : BinOp} {t t' e : TypeId} {x y : Operand} {b : Bool} (ho : o.op = .binOp op t x y t') (hu : P.underlying t = some (.pointer e)) (hb : op = .eql ∧ b = false ∨ op = .neq ∧ b = true)
  (hxy : isNilP (ev sl x) = true ∧ isSomeP (ev sl y) = true ∨ isSomeP (ev sl x) = true ∧ isNilP (ev sl y) = true) (hk : k (.ex (.bool b)) [] 0) : Is P o sl h nx k := by
 refine ⟨_, _, _, okQuiet fun w p c F D a hev => ⟨.bool b, ?_, .ex _ _⟩, hk⟩
 have nilp : ∀ x, isNilP (ev sl x) = true → a.eval x = .pointer none := by
  intro x hx
  have := hev x
  unfold isNilP at hx
  split at hx
  ·rename_i e; rw [e] at this; exact this.ex_inv
  ·cases hx
 have somep : ∀ x, isSomeP (ev sl x) = true → ∃ ad, a.eval x = .pointer (some ad) := by
  intro x hx
  have := hev x
  unfold isSomeP at hx
  split at hx
  ·rename_i e; rw [e] at this; obtain ⟨g, _, _, h⟩ := this.ptr_inv; exact ⟨_, h⟩
  ·rename_i e; rw [e] at this; obtain ⟨g, q, u, h, _⟩ := this.vp_inv; exact ⟨_, h⟩
  ·rename_i e; rw [e] at this; obtain ⟨g, q, u, h, _⟩ := this.vq_inv; exact ⟨_, h⟩
  ·cases hx
 rcases hxy with ⟨h1, h2⟩ | ⟨h1, h2⟩
 ·have e1 := nilp x h1
  obtain ⟨ad, e2⟩ := somep y h2
  have e3 : (Op.equal t (.pointer none) (.pointer (some ad))).run P w = .ok false w := eq_nil1 hu 9999 ad w
  rcases hb with ⟨rfl, rfl⟩ | ⟨rfl, rfl⟩ <;> simp [execOp, ho, e1, e2, eqGuard, binOp, e3]
 ·obtain ⟨ad, e1⟩ := somep x h1
  have e2 := nilp y h2
  have e3 : (Op.equal t (.pointer (some ad)) (.pointer none)).run P w = .ok false w := eq_nil2 hu 9999 ad w
  rcases hb with ⟨rfl, rfl⟩ | ⟨rfl, rfl⟩ <;> simp [execOp, ho, e1, e2, eqGuard, binOp, e3]
theorem eq_nil0 {t e : TypeId} (hu : P.underlying t = some (.pointer e)) (d : Nat) (w : World) : (Op.equalIn (d + 1) t (.pointer none) (.pointer none)).run P w = .ok true w := by
 simp [Op.equalIn, run_underlying hu]
theorem bin_pt {op : BinOp} {t t' e : TypeId} {x y : Operand} {b r : Bool} (ho : o.op = .binOp op t x y t') (hu : P.underlying t = some (.pointer e)) (hb : op = .eql ∧ r = !b ∨ op = .neq ∧ r = b)
  (hx : ptB (ev sl x) = some b) (hy : isNilP (ev sl y) = true) (hk : k (.ex (.bool r)) [] 0) : Is P o sl h nx k := by
 refine ⟨_, _, _, okQuiet fun w p c F D a hev => ⟨.bool r, ?_, .ex _ _⟩, hk⟩
 have hyv : a.eval y = .pointer none := by
  have := hev y
  unfold isNilP at hy
  split at hy
  ·rename_i e; rw [e] at this; exact this.ex_inv
  ·cases hy
 have hxv := hev x
 unfold ptB at hx
 split at hx
 case h_2 => cases hx
 rename_i b' cs hxe
 injection hx with hx; subst hx
 rw [hxe] at hxv
 rcases hxv.pt_inv with ⟨rfl, e1⟩ | ⟨rfl, g, q, u, e1, _⟩
 ·have e3 : (Op.equal t (.pointer none) (.pointer none)).run P w = .ok true w := eq_nil0 hu 9999 w
  rcases hb with ⟨rfl, rfl⟩ | ⟨rfl, rfl⟩ <;> simp [execOp, ho, e1, hyv, eqGuard, binOp, e3]
 ·have e3 : (Op.equal t (.pointer (some ⟨g, q, none⟩)) (.pointer none)).run P w = .ok false w := eq_nil2 hu 9999 _ w
  rcases hb with ⟨rfl, rfl⟩ | ⟨rfl, rfl⟩ <;> simp [execOp, ho, e1, hyv, eqGuard, binOp, e3]
theorem eq_nilF1 {t : TypeId} {ps rs : Array TypeId} {va : Bool} (hu : P.underlying t = some (.func ps rs va)) (d : Nat) (fn : Fn) (fs cs : Array Value) (w : World) : (Op.equalIn (d + 1) t .nilFunc (.func fn fs cs)).run P w = .ok false w := by
 simp [Op.equalIn, run_underlying hu]
theorem eq_nilF2 {t : TypeId} {ps rs : Array TypeId} {va : Bool} (hu : P.underlying t = some (.func ps rs va)) (d : Nat) (fn : Fn) (fs cs : Array Value) (w : World) : (Op.equalIn (d + 1) t (.func fn fs cs) .nilFunc).run P w = .ok false w := by
 simp [Op.equalIn, run_underlying hu]
theorem bin_nilF {op : BinOp} {t t' : TypeId} {ps rs : Array TypeId} {va : Bool} {x y : Operand} {b : Bool} (ho : o.op = .binOp op t x y t') (hu : P.underlying t = some (.func ps rs va)) (hb : op = .eql ∧ b = false ∨ op = .neq ∧ b = true)
  (hxy : isNilF (ev sl x) = true ∧ isSomeF (ev sl y) = true ∨ isSomeF (ev sl x) = true ∧ isNilF (ev sl y) = true) (hk : k (.ex (.bool b)) [] 0) : Is P o sl h nx k := by
 refine ⟨_, _, _, okQuiet fun w p c F D a hev => ⟨.bool b, ?_, .ex _ _⟩, hk⟩
 have nilp : ∀ x, isNilF (ev sl x) = true → a.eval x = .nilFunc := by
  intro x hx
  have := hev x
  unfold isNilF at hx
  split at hx
  ·rename_i e; rw [e] at this; exact this.ex_inv
  ·cases hx
 have somep : ∀ x, isSomeF (ev sl x) = true → ∃ f us, a.eval x = .func (.func f) #[] us := by
  intro x hx
  have := hev x
  unfold isSomeF at hx
  split at hx
  ·rename_i e; rw [e] at this; obtain ⟨us, h, _⟩ := this.clo_inv; exact ⟨_, _, h⟩
  ·cases hx
 rcases hxy with ⟨h1, h2⟩ | ⟨h1, h2⟩
 ·have e1 := nilp x h1
  obtain ⟨f, us, e2⟩ := somep y h2
  have e3 : (Op.equal t .nilFunc (.func (.func f) #[] us)).run P w = .ok false w := eq_nilF1 hu 9999 _ _ _ w
  rcases hb with ⟨rfl, rfl⟩ | ⟨rfl, rfl⟩ <;> simp [execOp, ho, e1, e2, eqGuard, binOp, e3]
 ·obtain ⟨f, us, e1⟩ := somep x h1
  have e2 := nilp y h2
  have e3 : (Op.equal t (.func (.func f) #[] us) .nilFunc).run P w = .ok false w := eq_nilF2 hu 9999 _ _ _ w
  rcases hb with ⟨rfl, rfl⟩ | ⟨rfl, rfl⟩ <;> simp [execOp, ho, e1, e2, eqGuard, binOp, e3]
theorem eqVal_run {t : TypeId} {x y : Value} {r : Bool} (h : eqVal P t x y = some r) (d : Nat) (w : World) : (Op.equalIn (d + 1) t x y).run P w = .ok r w ∧ P.plainKey t = true := by
 unfold eqVal at h
 split at h
 ·rename_i kk hu
  split at h
  ·split at h
   ·rename_i hk
    cases of_decide_eq_true hk
    injection h with h; subst h
    exact ⟨run_equalIn_int w d t _ kk _ _ hu, by simp [Program.plainKey, hu]⟩
   ·cases h
  ·cases h
 ·rename_i hu
  split at h
  ·injection h with h; subst h
   exact ⟨run_equalIn_string w d t _ _ hu, by simp [Program.plainKey, hu]⟩
  ·cases h
 ·rename_i hu
  split at h
  ·injection h with h; subst h
   exact ⟨run_equalIn_bool' w d t _ _ hu, by simp [Program.plainKey, hu]⟩
  ·cases h
 ·cases h
theorem eqFs_run {us vs : Array Value} (d : Nat) (w : World) : ∀ {fs : List Field} {r : Bool}, eqFs P us.toList vs.toList fs = some r → fs.all (fun f => f.name != "_") = true →
  (Op.eqFields (d + 1) us vs fs).run P w = .ok r w
 | [], r, h, _ => by
  simp only [eqFs] at h; injection h with h; subst h
  simp [Op.eqFields]
 | f :: l, r, h, hn => by
  simp only [List.all_cons, Bool.and_eq_true] at hn
  have hf : f.name ≠ "_" := by simpa using hn.1
  simp only [eqFs] at h
  split at h
  ·rename_i a b ha hb
   split at h
   ·rename_i p q hp hq
    injection h with h; subst h
    obtain ⟨e1, pk⟩ := eqVal_run hp d w
    have ha' : us[f.offset]? = some a := by simpa using ha
    have hb' : vs[f.offset]? = some b := by simpa using hb
    have ih := eqFs_run d w hq hn.2
    cases p <;> simp [Op.eqFields, hf, run_part_plain w pk ha', run_part_plain w pk hb', e1, ih]
   ·cases h
  ·cases h
theorem bin_eqS {op : BinOp} {t t' : TypeId} {x y : Operand} {fs : Array Field} {neg : Bool} (ho : o.op = .binOp op t x y t') (hu : P.underlying t = some (.struct fs)) (hb : op = .eql ∧ neg = false ∨ op = .neq ∧ neg = true)
  (hk : opEqS P t fs.toList (ev sl x) (ev sl y) neg k (opFall P sl o k)) : Is P o sl h nx k := by
 unfold opEqS at hk
 split at hk
 ·rename_i us vs hx hy
  split at hk
  ·rename_i r hr
   obtain ⟨hT, hk⟩ := hk
   unfold eqT at hT
   rw [hu] at hT
   simp only [Bool.and_eq_true, Bool.not_eq_true'] at hT
   have hfo : P.fieldsOf t = fs := by unfold Program.fieldsOf; rw [hu]
   refine ⟨_, _, _, okQuiet fun w p c F D a hev => ⟨_, ?_, .ex _ _⟩, hk⟩
   have h1 := (hx ▸ hev x : Rep w p c F D _ _).ex_inv
   have h2 := (hy ▸ hev y : Rep w p c F D _ _).ex_inv
   have e0 : (Op.equalIn 10000 t (.agg us) (.agg vs)).run P w = .ok r w := by
    rw [run_equalIn_struct w 9999 t us vs (by rw [hfo]; exact hu) hT.2.1, hfo]
    exact eqFs_run 9998 w hr hT.1
   have e3 := run_eqGuard_agg w op t x y us vs hT.2.2
   rcases hb with ⟨rfl, rfl⟩ | ⟨rfl, rfl⟩
   ·have e1 := run_eql_struct (P := P) w t us vs
    rw [e0] at e1
    simp [execOp, ho, h1, h2, e3, e1]
   ·have e1 := run_neq_struct (P := P) w t us vs
    rw [e0] at e1
    simp [execOp, ho, h1, h2, e3, e1]
  ·exact bin_fall ho hk
 ·exact bin_fall ho hk
theorem ok_bin {op : BinOp} {t t' : TypeId} {x y : Operand} (ho : o.op = .binOp op t x y t') (hk : opBin P sl o op t x y k) : Is P o sl h nx k := by
 unfold opBin at hk
 split at hk
 ·rename_i a b hx hy
  exact ok_bin_ex ho hx hy (by simp) (fun w => by simp [binOp, Op.intArith, wrap_in hk.1]) hk.2
 ·rename_i a b hx hy
  exact ok_bin_ex ho hx hy (by simp) (fun w => by simp [binOp, Op.intArith, wrap_in hk.1]) hk.2
 ·rename_i a b hx hy
  exact ok_bin_ex ho hx hy (by simp) (fun w => by simp [binOp, Op.intArith, wrap_in hk.1]) hk.2
 ·rename_i a b hx hy
  obtain ⟨⟨h1, h2, h3⟩, hk⟩ := hk
  refine ok_bin_ex ho hx hy (by simp) (fun w => ?_) hk
  have hb : b ≠ 0 := by omega
  unfold inR at h3
  simp [binOp, Op.intDiv, hb, IntWalk.i64_quo a b ⟨h1, h3.2, by omega⟩]
 ·rename_i a b hx hy
  obtain ⟨⟨h1, h2⟩, hk⟩ := hk
  refine ok_bin_ex ho hx hy (by simp) (fun w => ?_) hk
  have hb : b ≠ 0 := by omega
  simp [binOp, Op.intDiv, hb, Int.tmod_eq_emod_of_nonneg h1]
 ·rename_i a b hx hy
  obtain ⟨⟨h1, h2, h3⟩, hk⟩ := hk
  refine ok_bin_ex ho hx hy (by simp) (fun w => ?_) hk
  have hb : b ≠ 0 := by omega
  have e : a.tdiv b = a / b := Int.tdiv_eq_ediv_of_nonneg h1
  have h4 : 0 ≤ a / b := Int.ediv_nonneg h1 (by omega)
  have h5 : a / b ≤ a := Int.ediv_le_self _ h1
  simp [binOp, Op.intDiv, hb, e, wrap_u (a / b) h4 (by omega)]
 ·rename_i a b hx hy
  obtain ⟨⟨h1, h2⟩, hk⟩ := hk
  refine ok_bin_ex ho hx hy (by simp) (fun w => ?_) hk
  have hb : b ≠ 0 := by omega
  simp [binOp, Op.intDiv, hb, Int.tmod_eq_emod_of_nonneg h1]
 ·rename_i kk a k2 b hx hy
  obtain ⟨h1, hk⟩ := hk
  refine ok_bin_ex ho hx hy (by simp) (fun w => ?_) hk
  have hb : ¬ b < 0 := by omega
  simp [binOp, Op.shift, hb]
 ·rename_i kk a k2 b hx hy
  obtain ⟨h1, hk⟩ := hk
  refine ok_bin_ex ho hx hy (by simp) (fun w => ?_) hk
  have hb : ¬ b < 0 := by omega
  simp [binOp, Op.shift, hb]
 ·rename_i a b hx hy
  obtain ⟨h1, hk⟩ := hk
  refine ok_bin_ex ho hx hy (by simp) (fun w => ?_) hk
  have hm : IntKind.i64.max = 9223372036854775807 := by decide
  have hb : ¬ (9223372036854775807 < ((a.size : Int) + (b.size : Int))) := by omega
  simp [binOp, Op.stringOp, hm, hb]
 ·rename_i kk a k2 b _ hx hy
  split at hk
  ·rename_i he
   cases of_decide_eq_true he
   obtain ⟨z, hz, hk⟩ := hk
   exact ok_bin_ex ho hx hy (by simp) (fun w => by simp [binOp, Op.intArith, hz]) hk
  ·exact hk.elim
 ·rename_i kk a k2 b _ hx hy
  split at hk
  ·rename_i he
   cases of_decide_eq_true he
   obtain ⟨z, hz, hk⟩ := hk
   exact ok_bin_ex ho hx hy (by simp) (fun w => by simp [binOp, Op.intArith, hz]) hk
  ·exact hk.elim
 ·rename_i kk a k2 b _ hx hy
  split at hk
  ·rename_i he
   cases of_decide_eq_true he
   obtain ⟨z, hz, hk⟩ := hk
   exact ok_bin_ex ho hx hy (by simp) (fun w => by simp [binOp, Op.intArith, hz]) hk
  ·exact hk.elim
 ·split at hk
  ·rename_i fs hu
   exact bin_eqS ho hu (.inl ⟨rfl, rfl⟩) hk
  ·rename_i e hu
   split at hk
   ·exact bin_pt ho hu (.inl ⟨rfl, rfl⟩) (by assumption) (by assumption) hk
   ·split at hk
    ·exact bin_nil ho hu (.inl ⟨rfl, rfl⟩) (.inl ⟨by assumption, by assumption⟩) hk
    ·exact bin_nil ho hu (.inl ⟨rfl, rfl⟩) (.inr ⟨by assumption, by assumption⟩) hk
    ·exact bin_fall ho hk
  ·rename_i hu
   split at hk
   ·exact bin_nilF ho hu (.inl ⟨rfl, rfl⟩) (.inl ⟨by assumption, by assumption⟩) hk
   ·exact bin_nilF ho hu (.inl ⟨rfl, rfl⟩) (.inr ⟨by assumption, by assumption⟩) hk
   ·exact bin_fall ho hk
  ·exact bin_fall ho hk
 ·split at hk
  ·rename_i fs hu
   exact bin_eqS ho hu (.inr ⟨rfl, rfl⟩) hk
  ·rename_i e hu
   split at hk
   ·exact bin_pt ho hu (.inr ⟨rfl, rfl⟩) (by assumption) (by assumption) hk
   ·split at hk
    ·exact bin_nil ho hu (.inr ⟨rfl, rfl⟩) (.inl ⟨by assumption, by assumption⟩) hk
    ·exact bin_nil ho hu (.inr ⟨rfl, rfl⟩) (.inr ⟨by assumption, by assumption⟩) hk
    ·exact bin_fall ho hk
  ·rename_i hu
   split at hk
   ·exact bin_nilF ho hu (.inr ⟨rfl, rfl⟩) (.inl ⟨by assumption, by assumption⟩) hk
   ·exact bin_nilF ho hu (.inr ⟨rfl, rfl⟩) (.inr ⟨by assumption, by assumption⟩) hk
   ·exact bin_fall ho hk
  ·exact bin_fall ho hk
 ·exact bin_fall ho hk
theorem ok_field {t : TypeId} {x : Operand} {f : Nat} (ho : o.op = .field t x f) (hk : opField P sl t x f k) : Is P o sl h nx k := by
 have part_ok : ∀ {ft : TypeId} {cs : List AV} {d : Nat} {k : AV → Prop}, loadA P ft cs d k → ∃ v, k v ∧ ∀ (w : World) (D : Nat → Prop) (p : Nat → Option Nat) (c : Nat → Nat) (F : Nat → Nat → Prop) (us : Array Value),
   us.size = cs.length → (∀ j (h : j < cs.length), Rep w p c F D cs[j] (us.getD j undef)) → ∃ x, (part ft us d).run P w = .ok x w ∧ Rep w p c F D v x := by
  intro ft cs d k hk
  unfold loadA at hk
  split at hk
  ·rename_i hA
   obtain ⟨hl, hk⟩ := hk
   rw [forceCs_eq, mkAggK_eq] at hk
   refine ⟨_, hk, fun w D p c F us hs hr => ?_⟩
   obtain ⟨h1, h2⟩ := kind_true (w := w) hA
   refine ⟨.agg (us.extract d (d + sizeT P ft)), by simp [part, h1, h2], .mk ?_ fun j hj => ?_⟩
   ·unfold takeL; rw [List.length_take, List.length_drop, Array.size_extract]; omega
   ·have hj' : d + j < cs.length := by unfold takeL at hj; rw [List.length_take, List.length_drop] at hj; omega
    have h3 := hr (d + j) hj'
    have e1 : (takeL cs d (sizeT P ft))[j] = cs[d + j] := by
     have h1 := takeL_at (cs := cs) (off := d) (k := sizeT P ft) (List.getElem?_eq_getElem hj)
     rw [List.getElem?_eq_getElem hj'] at h1
     injection h1 with h1; exact h1.symm
    have hj2 : j < sizeT P ft := by unfold takeL at hj; rw [List.length_take, List.length_drop] at hj; omega
    have e2 : (us.extract d (d + sizeT P ft)).getD j undef = us.getD (d + j) undef := by
     have hj3 : j < min (d + sizeT P ft) us.size - d := by omega
     have hj4 : d + j < us.size := by omega
     simp [Array.getElem?_extract, hj3, hj4]
    rw [e1, e2]; exact h3
  ·rename_i hA
   split at hk
   ·rename_i v hv
    refine ⟨_, hk, fun w D p c F us hs hr => ?_⟩
    obtain ⟨hlt, he⟩ := List.getElem?_eq_some_iff.1 hv
    have hd : d < us.size := by omega
    refine ⟨us[d], by simp [part, kind_false hA, hd], ?_⟩
    have := hr d hlt
    rw [he] at this
    simpa [hd] using this
   ·exact hk.elim
  ·exact hk.elim
 unfold opField fieldOff at hk
 cases hu : P.underlying t with
 | none => rw [hu] at hk; exact hk.elim
 | some d =>
  rw [hu] at hk
  cases d
  case struct fs =>
   simp only at hk
   cases hf : fs[f]? with
   | none => rw [hf] at hk; exact hk.elim
   | some fd =>
    rw [hf] at hk
    simp only at hk
    cases hz : Nat.blt 0 (sizeT P fd.type) with
    | false => rw [hz] at hk; exact hk.elim
    | true =>
    rw [hz] at hk
    simp only at hk
    split at hk
    ·rename_i us hx
     obtain ⟨v, hv, hp⟩ := part_ok hk
     refine ⟨_, _, _, okQuiet fun w p c F D a hev => ?_, hv⟩
     have he := (hx ▸ hev x : Rep w p c F D _ _).ex_inv
     obtain ⟨x', h1, h2⟩ := hp w D p c F us (by simp [AV.cells]) (fun j hj => by
      have hj' : j < us.size := by simpa [AV.cells] using hj
      have : (AV.cells (.ex (.agg us)))[j] = .ex (us.getD j undef) := by simp [AV.cells, hj']
      rw [this]; exact .ex _ _)
     exact ⟨x', by simp [execOp, ho, Instr.field, run_underlying hu, hf, he, asAgg, h1], h2⟩
    ·rename_i cs hx
     obtain ⟨v, hv, hp⟩ := part_ok hk
     refine ⟨_, _, _, okQuiet fun w p c F D a hev => ?_, hv⟩
     obtain ⟨us, he, hs, hr⟩ := (hx ▸ hev x : Rep w p c F D _ _).agg_inv
     obtain ⟨x', h1, h2⟩ := hp w D p c F us hs hr
     exact ⟨x', by simp [execOp, ho, Instr.field, run_underlying hu, hf, he, asAgg, h1], h2⟩
    ·exact hk.elim
  all_goals exact hk.elim
theorem ok_len {t : TypeId} {x : Operand} {cl : Call} (ho : o.op = .call cl) (hc : cl.callee = .builtin .len) (ha : cl.args.toList = [x]) (ht : cl.argTypes.toList = [t]) (hk : opLen P sl t x k) : Is P o sl h nx k := by
 have ha' : cl.args = #[x] := by rw [← Array.toList_inj]; exact ha
 have ht' : cl.argTypes = #[t] := by rw [← Array.toList_inj]; exact ht
 unfold opLen at hk
 split at hk
 ·rename_i e hu
  split at hk
  ·rename_i r n hx
   refine ⟨_, _, _, okQuiet fun w p c F D a hev => ⟨_, ?_, .ex _ _⟩, hk⟩
   obtain ⟨_, _, he⟩ := (hx ▸ hev x : Rep w p c F D _ _).sl_inv
   simp [execOp, ho, resolve, hc, ha', ht', invoke, builtin, Builtin.len_, run_underlying hu, he, goInt]
  ·rename_i n cs hx
   refine ⟨_, _, _, okQuiet fun w p c F D a hev => ⟨_, ?_, .ex _ _⟩, hk⟩
   rcases (hx ▸ hev x : Rep w p c F D _ _).vs_inv with ⟨h0, _, a0, he⟩ | ⟨g, q, kc, u, hn, he, hw⟩
   ·subst h0; simp [execOp, ho, resolve, hc, ha', ht', invoke, builtin, Builtin.len_, run_underlying hu, he, goInt]
   ·simp [execOp, ho, resolve, hc, ha', ht', invoke, builtin, Builtin.len_, run_underlying hu, he, goInt]
  ·rename_i n cs hx
   refine ⟨_, _, _, okQuiet fun w p c F D a hev => ⟨_, ?_, .ex _ _⟩, hk⟩
   rcases (hx ▸ hev x : Rep w p c F D _ _).vf_inv with ⟨h0, _, a0, he⟩ | ⟨g, q, u, he, hw⟩
   ·subst h0; simp [execOp, ho, resolve, hc, ha', ht', invoke, builtin, Builtin.len_, run_underlying hu, he, goInt]
   ·simp [execOp, ho, resolve, hc, ha', ht', invoke, builtin, Builtin.len_, run_underlying hu, he, goInt]
  ·rename_i n m hx
   refine ⟨_, _, _, okQuiet fun w p c F D a hev => ⟨_, ?_, .ex _ _⟩, hk⟩
   have he := (hx ▸ hev x : Rep w p c F D _ _).ex_inv
   simp [execOp, ho, resolve, hc, ha', ht', invoke, builtin, Builtin.len_, run_underlying hu, he, goInt]
  ·exact hk.elim
 ·rename_i hu
  split at hk
  ·rename_i b hx
   refine ⟨_, _, _, okQuiet fun w p c F D a hev => ⟨_, ?_, .ex _ _⟩, hk⟩
   have he := (hx ▸ hev x : Rep w p c F D _ _).ex_inv
   simp [execOp, ho, resolve, hc, ha', ht', invoke, builtin, Builtin.len_, run_underlying hu, he, goInt]
  ·exact hk.elim
 ·rename_i n e hu
  refine ⟨_, _, _, okQuiet fun w p c F D a hev => ⟨_, ?_, .ex _ _⟩, hk⟩
  simp [execOp, ho, resolve, hc, ha', ht', invoke, builtin, Builtin.len_, run_underlying hu, goInt]
 ·exact hk.elim
end
end
end Go.Proofs.YtbaedepmogkkeaaGreat.Av
