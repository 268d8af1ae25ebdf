/- The abstract machine's operations are true of the model: stores, and rows that grow. No program's law is stated here. No conditions. -/
import Derived.Test.YtfonmnodjmeigaaAv6
import Derived.Deep.AppendSrc
import Derived.Deep.Upon
import Derived.Laws.MakeOwn
import Derived.Laws.IdiomCopy
namespace Go.Proofs.Ytfonmnodjmeigaa.Av
open Go Go.RowKit
set_option linter.unusedVariables false
set_option linter.unusedSimpArgs false

def setV (us : Array Value) (o : Nat) : List Value → Array Value
  | [] => us
  | v :: vs => setV (us.setIfInBounds o v) (o + 1) vs
theorem setV_size : ∀ (vs : List Value) (us : Array Value) (o : Nat), (setV us o vs).size = us.size
  | [], _, _ => rfl
  | v :: vs, us, o => by rw [setV, setV_size vs]; simp
theorem setL_length : ∀ (vs : List AV) (cs : List AV) (o : Nat), (setL cs o vs).length = cs.length
  | [], _, _ => rfl
  | v :: vs, cs, o => by rw [setL, setL_length vs]; simp
theorem setV_getD : ∀ (vs : List Value) (us : Array Value) (o j : Nat), j < us.size → (setV us o vs).getD j undef = if o ≤ j ∧ j < o + vs.length then vs.getD (j - o) undef else us.getD j undef
  | [], us, o, j, hj => by
    have : ¬ (o ≤ j ∧ j < o + ([] : List Value).length) := by
      intro hh; have := hh.1; have := hh.2; simp at this; omega
    rw [if_neg this]; rfl
  | v :: vs, us, o, j, hj => by
    rw [setV, setV_getD vs _ (o + 1) j (by simpa using hj)]
    by_cases h1 : o + 1 ≤ j ∧ j < o + 1 + vs.length
    · rw [if_pos h1, if_pos (by simp; omega)]
      have : j - o = (j - (o + 1)) + 1 := by omega
      rw [this]; rfl
    · rw [if_neg h1]
      by_cases h2 : j = o
      · subst h2
        rw [if_pos (by simp)]
        simp [hj]
      · rw [if_neg (by simp; omega)]
        simp [Array.getElem?_setIfInBounds, Ne.symm h2]
section
variable {w : World} {D : Nat → Prop} {p : Nat → Option Nat} {c : Nat → Nat} {F F0 : Nat → Nat → Prop} {P : Program} {w0 w' : World} {m : Nat} {slots : Sl} {heap : Hp} {a : Act}
theorem setRep : ∀ (vs : List AV) (xs : List Value) (cs : List AV) (us : Array Value) (o : Nat), xs.length = vs.length → cs.length ≤ us.size → o + vs.length ≤ cs.length →
    (∀ j (h : j < vs.length), Rep w p c F D vs[j] (xs.getD j undef)) → (∀ j (h : j < cs.length), Rep w p c F D cs[j] (us.getD j undef)) →
    ∀ j (h : j < (setL cs o vs).length), Rep w p c F D (setL cs o vs)[j] ((setV us o xs).getD j undef)
  | [], [], cs, us, o, h1, h2, h3, h4, h5 => h5
  | [], _ :: _, cs, us, o, h1, _, _, _, _ => by simp at h1
  | v :: vs, [], cs, us, o, h1, _, _, _, _ => by simp at h1
  | v :: vs, x :: xs, cs, us, o, h1, h2, h3, h4, h5 => by
    simp only [setL, setV]
    have h3' : o + 1 + vs.length ≤ cs.length := by simp at h3; omega
    refine setRep vs xs (cs.set o v) (us.setIfInBounds o x) (o + 1) (by simpa using h1) (by simpa using h2) (by simpa using h3') (fun j h => h4 (j + 1) (Nat.succ_lt_succ h)) (fun j h => ?_)
    have hj : j < cs.length := by simpa using h
    by_cases e : o = j
    · subst e
      have e1 : (cs.set o v)[o] = v := by simp
      have e2 : (us.setIfInBounds o x).getD o undef = x := by
        have : o < us.size := by omega
        simp [this]
      rw [e1, e2]; exact h4 0 (Nat.zero_lt_succ _)
    · have e1 : (cs.set o v)[j] = cs[j] := by simp [List.getElem_set, e]
      have e2 : (us.setIfInBounds o x).getD j undef = us.getD j undef := by simp [Array.getElem?_setIfInBounds, e]
      rw [e1, e2]; exact h5 j hj
theorem heap_setCells {g : Nat} {t : TypeId} {fr : Nat × Nat} : ∀ (vs : List Value) (us : Array Value) (o : Nat) (w : World), w.heap[g]? = some (.cells us t fr) → (w.setCells g o vs).heap[g]? = some (.cells (setV us o vs) t fr)
  | [], us, o, w, h => h
  | v :: vs, us, o, w, h => by
    rw [World.setCells, setV]
    refine heap_setCells vs _ (o + 1) _ ?_
    simp only [World.setCell, Array.getElem?_modify, h]
    simp
theorem heap_setCells_ne {g k : Nat} (hk : k ≠ g) : ∀ (vs : List Value) (o : Nat) (w : World), (w.setCells g o vs).heap[k]? = w.heap[k]?
  | [], o, w => rfl
  | v :: vs, o, w => by rw [World.setCells, heap_setCells_ne hk vs]; exact Below.heap_setCell w _ v k hk
theorem setCells_rest {g : Nat} : ∀ (vs : List Value) (o : Nat) (w : World), (w.setCells g o vs).os = w.os ∧ (w.setCells g o vs).tape = w.tape ∧ (w.setCells g o vs).output = w.output ∧ (w.setCells g o vs).heap.size = w.heap.size
  | [], o, w => ⟨rfl, rfl, rfl, rfl⟩
  | v :: vs, o, w => by
    obtain ⟨h1, h2, h3, h4⟩ := setCells_rest (g := g) vs (o + 1) (w.setCell ⟨g, o, none⟩ v)
    rw [World.setCells]
    exact ⟨h1, h2, h3, by rw [h4]; simp [World.setCell]⟩
theorem Rel.below_turn (h : Rel P w0 F0 m D p c F slots heap a w) {g : Nat} (hg : w0.heap.size ≤ g) (vs : List Value) (o : Nat) : Below w0.heap.size w0 (w.setCells g o vs) := by
  obtain ⟨h1, h2, h3, h4⟩ := setCells_rest (g := g) vs o w
  exact h.below.trans ⟨h1, h2, h3, by omega, fun k hk => heap_setCells_ne (by omega) vs o w⟩
/-- a block of the call's own turns: the cells behind what is frozen -/
theorem Rel.turn (h : Rel P w0 F0 m D p c F slots heap a w) {r r' g : Nat} {b b' : ABlk} (hr : look heap r = some (some b)) (hp : p r = some g) (vs : List Value) (o : Nat)
    (hr' : r' = r ∨ ¬ D r') (k : Nat) (hF : ∀ j, F g j → j < o) (hfz : b.fz = true → b'.fz = true) (hle : b.cells.length ≤ b'.cells.length)
    (hB : BlkOk P (w.setCells g o vs) (addD D r') (setAt p r' (some g)) (setAt c r' k) F r' b') (hk : r' = r → k = c r) :
    Rel P w0 F0 m (addD D r') (setAt p r' (some g)) (setAt c r' k) F slots ((r', some b') :: (if r' = r then heap else (r, none) :: heap)) a (w.setCells g o vs) := by
  have hlt := (h.live r b hr).2.lt hp
  have hpp : ∀ i, D i → setAt p r' (some g) i = p i := by
    intro i hi
    by_cases e : i = r'
    · rcases hr' with e2 | e2
      · rw [e, setAt_same, e2, hp]
      · exact absurd (e ▸ hi) e2
    · exact setAt_ne p _ e
  have hcc : ∀ i, D i → setAt c r' k i = c i := by
    intro i hi
    by_cases e : i = r'
    · rcases hr' with e2 | e2
      · rw [e, setAt_same, e2, hk e2]
      · exact absurd (e ▸ hi) e2
    · exact setAt_ne c _ e
  have ext : Ext w D p c F (w.setCells g o vs) (addD D r') (setAt p r' (some g)) (setAt c r' k) F :=
    ⟨fun i hi => ⟨.inl hi, hpp i hi, hcc i hi⟩, fun _ _ h => h, fun g' j hj => by
      by_cases e : g' = g
      · subst e
        exact World.cell?_setCells_out g' vs o w ⟨g', j, none⟩ fun _ _ => .inl (hF j hj)
      · exact World.cell?_of_block (w := w) (a := ⟨g', j, none⟩) (heap_setCells_ne e vs o w)⟩
  have hold : ∀ i b1, look ((r', some b') :: (if r' = r then heap else (r, none) :: heap)) i = some (some b1) → i ≠ r' → look heap i = some (some b1) ∧ i ≠ r := by
    intro i b1 hi hne
    rw [look_cons, if_neg (Ne.symm hne)] at hi
    split at hi
    · rename_i e; exact ⟨hi, by rw [← e]; exact hne⟩
    · rw [look_cons] at hi
      by_cases e : r = i
      · rw [if_pos e] at hi; injection hi with hi; cases hi
      · rw [if_neg e] at hi; exact ⟨hi, Ne.symm e⟩
  have hne_g : ∀ i b1 g', look heap i = some (some b1) → i ≠ r → p i = some g' → g' ≠ g := by
    intro i b1 g' hi hne hpi e
    subst e
    exact hne (h.inj i r b1 b g' hi hr hpi hp)
  refine h.upd ext (fun i b1 hi => ?_) (fun i i' b1 b2 g' h1 h2 p1 p2 => ?_) (fun i b1 g' hi hpi => ?_) (fun g' j hj => ⟨by rw [(setCells_rest vs o w).2.2.2]; exact (h.fr g' j hj).1, (h.fr g' j hj).2⟩) (fun i b1 g' j hi hpi hj => ?_) (h.below_turn (h.own r b g hr hp) vs o)
  · by_cases e : i = r'
    · subst e
      rw [look_cons, if_pos rfl] at hi; injection hi with hi; injection hi with hi; subst hi
      exact ⟨.inr rfl, hB⟩
    · obtain ⟨h0, hn⟩ := hold i b1 hi e
      have hl := h.live i b1 h0
      exact ⟨.inl hl.1, hl.2.mono hl.1 ext fun g' hg' => heap_setCells_ne (hne_g i b1 g' h0 hn hg') vs o w⟩
  · by_cases e : i = r'
    · by_cases e' : i' = r'
      · rw [e, e']
      · subst e
        obtain ⟨h0, hn⟩ := hold i' b2 h2 e'
        rw [setAt_same] at p1; injection p1 with p1
        rw [setAt_ne p _ e'] at p2
        exact absurd p1.symm (hne_g i' b2 g' h0 hn p2)
    · by_cases e' : i' = r'
      · subst e'
        obtain ⟨h0, hn⟩ := hold i b1 h1 e
        rw [setAt_same] at p2; injection p2 with p2
        rw [setAt_ne p _ e] at p1
        exact absurd p2.symm (hne_g i b1 g' h0 hn p1)
      · obtain ⟨h0, hn⟩ := hold i b1 h1 e
        obtain ⟨h0', hn'⟩ := hold i' b2 h2 e'
        rw [setAt_ne p _ e] at p1
        rw [setAt_ne p _ e'] at p2
        exact h.inj i i' b1 b2 g' h0 h0' p1 p2
  · by_cases e : i = r'
    · subst e
      rw [setAt_same] at hpi; injection hpi with hpi; subst hpi
      exact h.own r b g hr hp
    · obtain ⟨h0, hn⟩ := hold i b1 hi e
      rw [setAt_ne p _ e] at hpi
      exact h.own i b1 g' h0 hpi
  · by_cases e : i = r'
    · subst e
      rw [look_cons, if_pos rfl] at hi; injection hi with hi; injection hi with hi; subst hi
      rw [setAt_same] at hpi; injection hpi with hpi; subst hpi
      obtain ⟨q1, q2⟩ := h.fz r b g j hr hp hj
      exact ⟨hfz q1, by omega⟩
    · obtain ⟨h0, hn⟩ := hold i b1 hi e
      rw [setAt_ne p _ e] at hpi
      exact h.fz i b1 g' j h0 hpi hj
theorem one1_ok {v : AV} {x : Value} (h : Rep w p c F D v x) (h1 : one1 v = true) : x.oneCell' = true := by
  cases h with
  | ex D => cases x <;> first | rfl | cases h1
  | _ => first | rfl | cases h1
end

section
variable {P : Program} {o : Oper} {sl : Sl} {h : Hp} {nx : Nat} {k : Kt}
theorem setAt_id {α : Type} (f : Nat → α) {r : Nat} {x : α} (h : f r = x) : setAt f r x = f := by
  funext i
  unfold setAt
  split
  · rename_i e; rw [e, h]
  · rfl
theorem ok_store {t : TypeId} {x y : Operand} (ho : o.op = .store t x y) (hk : opStore P sl h t x y k) : Is P o sl h nx k := by
  unfold opStore at hk
  split at hk
  case h_2 => exact hk.elim
  rename_i r off hx
  split at hk
  case h_2 => exact hk.elim
  rename_i cs el pu hb
  obtain ⟨hu, hk⟩ := known_ok hk
  split at hk
  case h_2 => exact hk.elim
  rename_i hone hsz hpos
  obtain ⟨hle, hk⟩ := hk
  refine ⟨_, _, _, ?_, hk⟩
  intro w0 F0 m D p c F slots heap a w next Q hrel hev hh hfresh hnext
  obtain ⟨g, hd, hp, he⟩ := (hx ▸ hev x : Rep w p c F D _ _).ptr_inv
  have hlook := hh r _ hb
  obtain ⟨us, tt, fr, k1, k2, k3, k4, k5⟩ := (hrel.live r _ hlook).2.at hp
  obtain ⟨c1, c2⟩ := (hev y).cellsP hu
  have hsz' : (ev sl y).cells.length = sizeT P t := Nat.eq_of_beq_eq_true hsz
  have hone' : ∀ v ∈ (a.eval y).cells.toList, v.oneCell' = true := by
    intro v hv
    obtain ⟨j, hj, rfl⟩ := List.getElem_of_mem hv
    have hj' : j < (ev sl y).cells.length := by rw [← c1]; simpa using hj
    have h1 := c2 j hj'
    have h2 : one1 (ev sl y).cells[j] = true := (List.all_eq_true.1 hone) _ (List.getElem_mem _)
    have h3 := one1_ok h1 h2
    have hj2 : j < (a.eval y).cells.size := by simpa using hj
    have e : (a.eval y).cells.getD j undef = (a.eval y).cells.toList[j] := by simp [hj2]
    rw [e] at h3; exact h3
  simp only at k3
  have hlen : (a.eval y).cells.toList.length = (ev sl y).cells.length := by simpa using c1
  have hst := run_storeCells_cells (P := P) g off (a.eval y).cells.toList 0 w
    (fun j hj => by rw [Nat.add_zero, cell_at k1 (by omega)]; rfl)
    (fun j hj => by rw [Nat.add_zero]; exact frozen_at k1 k2 (by omega)) hone'
  rw [Nat.add_zero] at hst
  have hsize := (size_run (P := P) (w := w) hpos).1
  have hrun : (execOp a.eval o).run P w = .ok .skip (w.setCells g off (a.eval y).cells.toList) := by
    have e1 : (a.eval y).cells.size = sizeT P t := by rw [c1, hsz']
    simp [execOp, ho, Instr.storeAt, Instr.sureAddr, he, storeVar, hsize, e1, hst]
  have hpid := setAt_id p hp
  have hcid := setAt_id c (r := r) rfl
  have hF0 : ∀ j, ¬ F g j := fun j hj => by have := (hrel.fz r _ g j hlook hp hj).1; cases this
  have hDr : addD D r = D := by
    funext i; exact propext ⟨fun h => by rcases h with h | h; exact h; exact h ▸ hd, .inl⟩
  have ext : Ext w D p c F (w.setCells g off (a.eval y).cells.toList) D p c F := ⟨fun i hi => ⟨hi, rfl, rfl⟩, fun _ _ h => h, fun g' j hj => by
    by_cases e : g' = g
    · subst e; exact absurd hj (hF0 j)
    · exact World.cell?_of_block (w := w) (a := ⟨g', j, none⟩) (heap_setCells_ne e _ _ w)⟩
  have hturn := hrel.turn (r' := r) (b' := ⟨setL cs off (ev sl y).cells, el, false, pu && pureV (ev sl y)⟩) hlook hp (a.eval y).cells.toList off (.inl rfl) (c r) (fun j hj => absurd hj (hF0 j)) (fun h => by cases h) (by simp [setL_length]) (by
    rw [hpid, hcid, hDr]
    unfold BlkOk; rw [hp]
    refine ⟨setV us off (a.eval y).cells.toList, tt, fr, heap_setCells _ us off w k1, by rw [setV_size]; exact k2, by simp only [setL_length, setV_size]; exact k3, ?_, fun e he => by rw [setV_size]; exact k5 e he⟩
    have base : ∀ (E : Nat → Prop), (∀ j (h : j < (ev sl y).cells.length), Rep w p c F E (ev sl y).cells[j] ((a.eval y).cells.toList.getD j undef)) → (∀ j (h : j < cs.length), Rep w p c F E cs[j] (us.getD j undef)) →
        ∀ j (h : j < (setL cs off (ev sl y).cells).length), Rep w p c F E (setL cs off (ev sl y).cells)[j] ((setV us off (a.eval y).cells.toList).getD j undef) := fun E h1 h2 =>
      setRep _ _ cs us off hlen k3 hle h1 h2
    have e0 : ∀ j, (a.eval y).cells.toList.getD j undef = (a.eval y).cells.getD j undef := fun j => by simp [List.getD]
    intro j hj
    cases hpu : (pu && pureV (ev sl y)) with
    | true =>
      simp only [Bool.and_eq_true] at hpu
      obtain ⟨q1, q2⟩ := hpu
      subst q1
      exact (base noD (fun j hj => by rw [e0]; have := c2 j hj; rw [q2] at this; exact this) (fun j hj => k4 j hj) j hj).mono ext.no
    | false => exact (base D (fun j hj => by rw [e0]; exact (c2 j hj).pu) (fun j hj => (k4 j hj).pu) j hj).mono ext) (fun _ => rfl)
  rw [hpid, hcid, hDr, if_pos rfl] at hturn
  refine wp_skipped hrun (hnext undef _ D p c F hturn (.ex _ _) fun i => ⟨.inl, fun h => by rcases h with h | h; exact h; omega⟩)
end
end Go.Proofs.Ytfonmnodjmeigaa.Av
