/- The abstract machine's operations are true of the model: those that make and write no memory. No program's law is stated here. No conditions. -/
import Derived.Test.YtfonmnodjmeigaaAv2
namespace Go.Proofs.Ytfonmnodjmeigaa.Av
open Go Go.RowKit
set_option linter.unusedVariables false
set_option linter.unusedSimpArgs false

/-- An operation, met in a state that stands as sl and h tell, gives v, and turns the blocks d; n blocks are new. -/
def OpOk (P : Program) (o : Oper) (sl : Sl) (h : Hp) (nx : Nat) (v : AV) (d : Hp) (n : Nat) : Prop :=
  ∀ (w0 : World) (F0 : Nat → Nat → Prop) (m : Nat) (D : Nat → Prop) (p : Nat → Option Nat) (c : Nat → Nat) (F : Nat → Nat → Prop) (slots : Sl) (heap : Hp) (a : Act) (w : World)
    (next : Act → World → Prop) (Q : Exit → Act → World → Prop),
    Rel P w0 F0 m D p c F slots heap a w → (∀ x, Rep w p c F D (ev sl x) (a.eval x)) → (∀ r b, blkOf h r = some b → look heap r = some (some b)) →
    (∀ i, nx ≤ i → i < nx + n → ¬ D i) →
    (∀ x w' D' p' c' F', Rel P w0 F0 m D' p' c' F' slots (d ++ heap) a w' → Rep w' p' c' F' D' v x → (∀ i, D' i ↔ D i ∨ (nx ≤ i ∧ i < nx + n)) → next (a.put o.dst x) w') →
    o.wp P a w next Q

section
variable {P : Program} {o : Oper} {a : Act} {w w' : World} {next : Act → World → Prop} {Q : Exit → Act → World → Prop} {x : Value}
theorem wp_value (h : (execOp a.eval o).run P w = .ok (.value x) w') (k : next (a.put o.dst x) w') : o.wp P a w next Q := by
  unfold Oper.wp; rw [h]; exact k
theorem wp_skipped (h : (execOp a.eval o).run P w = .ok .skip w') (k : next (a.put o.dst undef) w') : o.wp P a w next Q := by
  unfold Oper.wp; rw [h]; exact k
theorem okQuiet {sl : Sl} {h : Hp} {nx : Nat} {v : AV} (hr : ∀ (w : World) (p : Nat → Option Nat) (c : Nat → Nat) (F : Nat → Nat → Prop) (D : Nat → Prop) (a : Act),
    (∀ x, Rep w p c F D (ev sl x) (a.eval x)) → ∃ x, (execOp a.eval o).run P w = .ok (.value x) w ∧ Rep w p c F D v x) : OpOk P o sl h nx v [] 0 := by
  intro w0 F0 m D p c F slots heap a w next Q hrel hev _ _ hk
  obtain ⟨x, h1, h2⟩ := hr w p c F D a hev
  exact wp_value h1 (hk x w D p c F hrel h2 fun i => ⟨.inl, fun h => by rcases h with h | h; exact h; omega⟩)
/-- .. that reads blocks of the call's own -/
theorem okRead {sl : Sl} {h : Hp} {nx : Nat} {v : AV} (hr : ∀ (w : World) (p : Nat → Option Nat) (c : Nat → Nat) (F : Nat → Nat → Prop) (D : Nat → Prop) (a : Act),
    (∀ x, Rep w p c F D (ev sl x) (a.eval x)) → (∀ r b, blkOf h r = some b → D r ∧ BlkOk P w D p c F r b) → ∃ x, (execOp a.eval o).run P w = .ok (.value x) w ∧ Rep w p c F D v x) : OpOk P o sl h nx v [] 0 := by
  intro w0 F0 m D p c F slots heap a w next Q hrel hev hh _ hk
  obtain ⟨x, h1, h2⟩ := hr w p c F D a hev fun r b hb => hrel.live r b (hh r b hb)
  exact wp_value h1 (hk x w D p c F hrel h2 fun i => ⟨.inl, fun h => by rcases h with h | h; exact h; omega⟩)
end

theorem blk_look {h : Hp} {r : Nat} {b : ABlk} (e : blkOf h r = some b) : look h r = some (some b) := by
  unfold blkOf at e
  split at e
  · rename_i b' hb; injection e with e; subst e; exact hb
  · cases e
section
variable {w : World} {D : Nat → Prop} {p : Nat → Option Nat} {c : Nat → Nat} {F : Nat → Nat → Prop} {slots : Sl} {heap : Hp} {a : Act} {P : Program} {w0 : World} {F0 : Nat → Nat → Prop} {m : Nat}
theorem Rel.ev_ (h : Rel P w0 F0 m D p c F slots heap a w) (x : Operand) : Rep w p c F D (ev slots x) (a.eval x) := by
  cases x with
  | tmp t =>
    simp only [ev, slotOf]
    cases hl : look slots t with
    | none => exact .unk _ _
    | some v => exact h.slots t v hl
  | const v => exact .ex _ v
  | global g => exact .unk _ _
  | func f => exact .ex _ _
theorem Rep.ex_inv {v x : Value} (h : Rep w p c F D (.ex v) x) : x = v := by cases h; rfl
theorem Rep.ptr_inv {r off : Nat} {x : Value} (h : Rep w p c F D (.ptr r off) x) : ∃ g, D r ∧ p r = some g ∧ x = .pointer (some ⟨g, off, none⟩) := by
  cases h with | ptr D r off g hd hp => exact ⟨g, hd, hp, rfl⟩
theorem Rep.sl_inv {r n : Nat} {x : Value} (h : Rep w p c F D (.sl r n) x) : D r ∧ n ≤ c r ∧ x = .slice ((p r).map fun g => ⟨g, 0, none⟩) n (c r) := by
  cases h with | sl D r n hd hn => exact ⟨hd, hn, rfl⟩
/-- cells that are read -/
def Win (w : World) (p : Nat → Option Nat) (c : Nat → Nat) (F : Nat → Nat → Prop) (g o : Nat) (cs : List AV) (u : Nat → Value) : Prop :=
  (∀ j, j < cs.length → F g (o + j) ∧ w.cell? ⟨g, o + j, none⟩ = some (u j)) ∧ ∀ j (h : j < cs.length), Rep w p c F noD cs[j] (u j)
theorem Rep.vs_inv {n : Nat} {cs : List AV} {x : Value} (h : Rep w p c F D (.vs n cs) x) :
    (n = 0 ∧ cs = [] ∧ x = .slice none 0 0) ∨ ∃ g o k u, n ≤ k ∧ x = .slice (some ⟨g, o, none⟩) n k ∧ Win w p c F g o cs u := by
  cases h with
  | vnil => exact .inl ⟨rfl, rfl, rfl⟩
  | vs D n cs g o k u hk hc hr => exact .inr ⟨g, o, k, u, hk, rfl, hc, hr⟩
theorem Rep.vp_inv {off : Nat} {cs : List AV} {x : Value} (h : Rep w p c F D (.vp cs off) x) : ∃ g o u, x = .pointer (some ⟨g, o + off, none⟩) ∧ Win w p c F g o cs u := by
  cases h with | vp D cs off g o u hc hr => exact ⟨g, o, u, rfl, hc, hr⟩
theorem Rep.vq_inv {off : Nat} {cs : List AV} {x : Value} (h : Rep w p c F D (.vq cs off) x) : ∃ g o u, x = .pointer (some ⟨g, o + off, none⟩) ∧ Win w p c F g o cs u := by
  cases h with | vq D cs off g o u hc hr => exact ⟨g, o, u, rfl, hc, hr⟩
theorem Rep.agg_inv {cs : List AV} {x : Value} (h : Rep w p c F D (.agg cs) x) : ∃ us, x = .agg us ∧ us.size = cs.length ∧ ∀ j (h : j < cs.length), Rep w p c F D cs[j] (us.getD j undef) := by
  cases h with | agg D cs us h1 h2 => exact ⟨us, rfl, h1, h2⟩
theorem Rep.tup_inv {cs : List AV} {x : Value} (h : Rep w p c F D (.tup cs) x) : ∃ us, x = .tuple us ∧ us.size = cs.length ∧ ∀ j (h : j < cs.length), Rep w p c F D cs[j] (us.getD j undef) := by
  cases h with | tup D cs us h1 h2 => exact ⟨us, rfl, h1, h2⟩
theorem exAll_spec : ∀ {cs : List AV} {vs : List Value}, exAll cs = some vs → cs = vs.map .ex
  | [], vs, h => by simp [exAll] at h; subst h; rfl
  | .ex v :: l, vs, h => by
    unfold exAll at h
    cases hl : exAll l with
    | none => simp [hl] at h
    | some us => simp [hl] at h; subst h; simp [exAll_spec hl]
  | .unk :: l, vs, h => by simp [exAll] at h
  | .ptr _ _ :: l, vs, h => by simp [exAll] at h
  | .sl _ _ :: l, vs, h => by simp [exAll] at h
  | .vs _ _ :: l, vs, h => by simp [exAll] at h
  | .vp _ _ :: l, vs, h => by simp [exAll] at h
  | .vq _ _ :: l, vs, h => by simp [exAll] at h
  | .own _ _ _ :: l, vs, h => by simp [exAll] at h
  | .agg _ :: l, vs, h => by simp [exAll] at h
  | .tup _ :: l, vs, h => by simp [exAll] at h
/-- a struct of cells that are known -/
theorem Rep.mk {cs : List AV} {us : Array Value} (hs : us.size = cs.length) (hr : ∀ j (h : j < cs.length), Rep w p c F D cs[j] (us.getD j undef)) : Rep w p c F D (mkAgg cs) (.agg us) := by
  unfold mkAgg
  cases h : exAll cs with
  | none => exact .agg _ cs us hs hr
  | some vs =>
    have e := exAll_spec h
    have : us = vs.toArray := by
      apply Array.ext'
      apply List.ext_getElem?
      intro j
      by_cases hj : j < cs.length
      · have h1 := hr j hj
        have e1 : cs[j] = .ex (vs[j]'(by rw [e] at hj; simpa using hj)) := by simp [e]
        rw [e1] at h1
        have h2 := h1.ex_inv
        have hj2 : j < vs.length := by rw [e] at hj; simpa using hj
        simp [hs, hj] at h2 ⊢
        first | done | exact h2 | (rw [h2, List.getElem?_eq_getElem hj2])
      · have : vs.length = cs.length := by rw [e]; simp
        rw [List.getElem?_eq_none (by simp [hs]; omega), List.getElem?_eq_none (by simp; omega)]
    rw [this]; exact .ex _ _
theorem BlkOk.at {r g : Nat} {b : ABlk} (h : BlkOk P w D p c F r b) (hp : p r = some g) : ∃ (us : Array Value) (t : TypeId) (fr : Nat × Nat), w.heap[g]? = some (.cells us t fr) ∧ us.size ≤ fr.1 + (if fr.1 = fr.2 then us.size else 0) ∧ b.cells.length ≤ us.size ∧
      (∀ j (h : j < b.cells.length), Rep w p c F (if b.pu then noD else D) b.cells[j] (us.getD j undef)) ∧
      (∀ e, b.el = some e → t = e ∧ us.size = c r * sizeT P e ∧ c r ≤ 9223372036854775807) := by
  unfold BlkOk at h; rw [hp] at h; exact h
theorem Rep.pu {v : AV} {x : Value} {b : Bool} (h : Rep w p c F (if b then noD else D) v x) : Rep w p c F D v x := by
  cases b
  · exact h
  · exact h.of_no
theorem cell_at {g j : Nat} {us : Array Value} {t : TypeId} {fr : Nat × Nat} (h : w.heap[g]? = some (.cells us t fr)) (hj : j < us.size) : w.cell? ⟨g, j, none⟩ = some (us.getD j undef) := by
  simp [World.cell?, h, hj]
theorem frozen_at {g j : Nat} {us : Array Value} {t : TypeId} {fr : Nat × Nat} (h : w.heap[g]? = some (.cells us t fr)) (hf : us.size ≤ fr.1 + (if fr.1 = fr.2 then us.size else 0)) (hj : j < us.size) : w.frozen? ⟨g, j, none⟩ = false := by
  obtain ⟨lo, hi⟩ := fr
  simp only [World.frozen?, h]
  simp only at hf
  by_cases e : lo = hi
  · subst e; simp; try omega
  · rw [if_neg e] at hf
    simp; omega
/-- the cells of a block, as a window -/
theorem BlkOk.cell {r g : Nat} {b : ABlk} (h : BlkOk P w D p c F r b) (hp : p r = some g) {j : Nat} (hj : j < b.cells.length) :
    ∃ u, w.cell? ⟨g, j, none⟩ = some u ∧ Rep w p c F D b.cells[j] u := by
  obtain ⟨us, t, fr, k1, k2, k3, k4, k5⟩ := h.at hp
  exact ⟨_, cell_at k1 (by omega), (k4 j hj).pu⟩

/-! ### loads -/
theorem kind_false {t : TypeId} (h : kindT P t = some false) : (isAgg t).run P w = .ok false w := by
  unfold kindT at h
  unfold isAgg
  cases hd : P.underlying t with
  | none => rw [hd] at h; cases h
  | some d =>
    rw [hd] at h
    rw [Sem.run_bind, run_underlying hd w]
    cases d <;> simp_all
theorem kind_true {t : TypeId} (h : kindT P t = some true) : (isAgg t).run P w = .ok true w ∧ (sizeOf t).run P w = .ok (sizeT P t) w := by
  unfold kindT at h
  cases hd : P.underlying t with
  | none => rw [hd] at h; cases h
  | some d =>
    rw [hd] at h
    constructor
    · unfold isAgg
      rw [Sem.run_bind, run_underlying hd w]
      cases d <;> simp_all
    · have hi : ∃ i, P.info? t = some i := by
        unfold Program.underlying at hd
        cases hi : P.info? t with
        | none => rw [hi] at hd; cases hd
        | some i => exact ⟨i, rfl⟩
      obtain ⟨i, hi⟩ := hi
      simp [sizeOf, typeInfo, hi, sizeT]
theorem size_run {t : TypeId} (h : Nat.blt 0 (sizeT P t) = true) : (sizeOf t).run P w = .ok (sizeT P t) w ∧ sizeT P t ≠ 0 := by
  have h0 : 0 < sizeT P t := by
    have : 1 ≤ sizeT P t := by simpa [Nat.blt, Nat.ble_eq] using h
    omega
  refine ⟨?_, by omega⟩
  unfold sizeT at *
  cases hi : P.info? t with
  | none => rw [hi] at h0; simp at h0
  | some i => simp [sizeOf, typeInfo, hi]
theorem run_loadVar_one {t : TypeId} (hA : kindT P t = some false) {ad : Addr} {u : Value} (hc : w.cell? ad = some u) : (loadVar t ad).run P w = .ok u w := by
  simp [loadVar, kind_false hA, hc, run_load]
theorem run_loadVar_agg {t : TypeId} (hA : kindT P t = some true) {g o : Nat} {us : List Value} (hn : us.length = sizeT P t) (hc : ∀ j v, us[j]? = some v → w.cell? ⟨g, o + j, none⟩ = some v) :
    (loadVar t ⟨g, o, none⟩).run P w = .ok (.agg us.toArray) w := by
  have h3 := run_loadCells_list (P := P) w ⟨g, o, none⟩ us (fun j v hv => by rw [Addr.add_lit]; exact hc j v hv)
  obtain ⟨h1, h2⟩ := kind_true (w := w) hA
  rw [← hn] at h2
  simp [loadVar, h1, h2, h3]

/-- cells that are read give what they are known to be -/
def Cells (w : World) (p : Nat → Option Nat) (c : Nat → Nat) (F : Nat → Nat → Prop) (D : Nat → Prop) (g o : Nat) (cs : List AV) : Prop :=
  ∀ j (h : j < cs.length), ∃ u, w.cell? ⟨g, o + j, none⟩ = some u ∧ Rep w p c F D cs[j] u
theorem Win.cells {g o : Nat} {cs : List AV} {u : Nat → Value} (h : Win w p c F g o cs u) : Cells w p c F D g o cs :=
  fun j hj => ⟨u j, (h.1 j hj).2, (h.2 j hj).of_no⟩
theorem BlkOk.cells {r g : Nat} {b : ABlk} (h : BlkOk P w D p c F r b) (hp : p r = some g) : Cells w p c F D g 0 b.cells := fun j hj => by
  obtain ⟨u, h1, h2⟩ := h.cell hp hj
  exact ⟨u, by rw [Nat.zero_add]; exact h1, h2⟩
theorem Cells.list {g o off : Nat} {cs : List AV} (h : Cells w p c F D g o cs) : ∀ {vs : List AV}, (∀ j v, vs[j]? = some v → cs[off + j]? = some v) →
    ∃ us : List Value, us.length = vs.length ∧ (∀ j v, us[j]? = some v → w.cell? ⟨g, o + off + j, none⟩ = some v) ∧ ∀ j (h : j < vs.length), Rep w p c F D vs[j] (us.getD j undef) := by
  intro vs hv
  have : ∀ n, n ≤ vs.length → ∃ us : List Value, us.length = n ∧ (∀ j v, us[j]? = some v → w.cell? ⟨g, o + off + j, none⟩ = some v) ∧ ∀ j (h : j < vs.length), j < n → Rep w p c F D vs[j] (us.getD j undef) := by
    intro n
    induction n with
    | zero => intro _; exact ⟨[], rfl, fun j v h => by simp at h, fun j h h0 => absurd h0 (by omega)⟩
    | succ n ih =>
      intro hn
      obtain ⟨us, h1, h2, h3⟩ := ih (by omega)
      have hvn : vs[n]? = some vs[n] := List.getElem?_eq_getElem (by omega)
      have hc := hv n _ hvn
      obtain ⟨hlt, he⟩ := List.getElem?_eq_some_iff.1 hc
      obtain ⟨u, k1, k2⟩ := h (off + n) hlt
      refine ⟨us ++ [u], by simp [h1], fun j v hj => ?_, fun j hj hjn => ?_⟩
      · by_cases e : j = n
        · subst e
          rw [List.getElem?_append_right (by omega), h1] at hj
          simp at hj; subst hj
          rw [Nat.add_assoc]; exact k1
        · have : j < n := by
            have := (List.getElem?_eq_some_iff.1 hj).1
            simp [h1] at this; omega
          rw [List.getElem?_append_left (by omega)] at hj
          exact h2 j v hj
      · by_cases e : j = n
        · subst e
          have : (us ++ [u]).getD j undef = u := by simp [List.getD, ← h1]
          rw [this, ← he]; exact k2
        · have : (us ++ [u]).getD j undef = us.getD j undef := by
            simp only [List.getD]; rw [List.getElem?_append_left (by omega)]
          rw [this]; exact h3 j hj (by omega)
  obtain ⟨us, h1, h2, h3⟩ := this _ (Nat.le_refl _)
  exact ⟨us, h1, h2, fun j hj => h3 j hj hj⟩
theorem getD_toArray (us : List Value) (j : Nat) : us.toArray.getD j undef = us.getD j undef := by simp [List.getD]
theorem takeL_at {cs : List AV} {off k j : Nat} {v : AV} (h : (takeL cs off k)[j]? = some v) : cs[off + j]? = some v := by
  unfold takeL at h
  have hj := (List.getElem?_eq_some_iff.1 h).1
  rw [List.length_take] at hj
  rw [List.getElem?_take_of_lt (by omega), List.getElem?_drop] at h
  exact h
theorem loadA_ok {t : TypeId} {cs : List AV} {g o off : Nat} {k : AV → Prop} (hk : loadA P t cs off k) : ∃ v, k v ∧ ∀ (w : World) (D : Nat → Prop) (p : Nat → Option Nat) (c : Nat → Nat) (F : Nat → Nat → Prop) (g o : Nat), Cells w p c F D g o cs →
    ∃ x, (loadVar t ⟨g, o + off, none⟩).run P w = .ok x w ∧ Rep w p c F D v x := by
  unfold loadA at hk
  split at hk
  · rename_i hA
    obtain ⟨hl, hk⟩ := hk
    refine ⟨_, hk, fun w D p c F g o hc => ?_⟩
    obtain ⟨us, h1, h2, h3⟩ := hc.list (off := off) (vs := takeL cs off (sizeT P t)) (fun j v => takeL_at)
    have hn : (takeL cs off (sizeT P t)).length = sizeT P t := by unfold takeL; rw [List.length_take, List.length_drop]; omega
    exact ⟨_, run_loadVar_agg hA (h1.trans hn) h2, .mk (by simpa using h1) fun j hj => by rw [getD_toArray]; exact h3 j hj⟩
  · rename_i hA
    split at hk
    · rename_i v hv
      refine ⟨_, hk, fun w D p c F g o hc => ?_⟩
      obtain ⟨hlt, he⟩ := List.getElem?_eq_some_iff.1 hv
      obtain ⟨u, k1, k2⟩ := hc off hlt
      exact ⟨u, run_loadVar_one hA k1, he ▸ k2⟩
    · exact hk.elim
  · exact hk.elim
theorem loadE_ok {t : TypeId} {cs : List AV} {off : Nat} {k : AV → Prop} (hk : loadE P t cs off k) : ∃ v, k v ∧ ∀ (w : World) (D : Nat → Prop) (p : Nat → Option Nat) (c : Nat → Nat) (F : Nat → Nat → Prop) (g o : Nat), Cells w p c F D g o cs →
    ∃ x, (loadVar t ⟨g, o + off, none⟩).run P w = .ok x w ∧ Rep w p c F D v x := by
  unfold loadE at hk
  split at hk
  · rename_i hA
    obtain ⟨vs, ⟨hn, hv⟩, hk⟩ := hk
    refine ⟨_, hk, fun w D p c F g o hc => ?_⟩
    obtain ⟨us, h1, h2, h3⟩ := hc.list (off := off) hv
    exact ⟨_, run_loadVar_agg hA (h1.trans hn) h2, .mk (by simpa using h1) fun j hj => by rw [getD_toArray]; exact h3 j hj⟩
  · rename_i hA
    obtain ⟨v, hv, hk⟩ := hk
    refine ⟨_, hk, fun w D p c F g o hc => ?_⟩
    obtain ⟨hlt, he⟩ := List.getElem?_eq_some_iff.1 hv
    obtain ⟨u, k1, k2⟩ := hc off hlt
    exact ⟨u, run_loadVar_one hA k1, he ▸ k2⟩
  · exact hk.elim
end

section
variable {P : Program} {o : Oper} {sl : Sl} {h : Hp} {nx : Nat} {k : Kt}
abbrev Is (P : Program) (o : Oper) (sl : Sl) (h : Hp) (nx : Nat) (k : Kt) : Prop := ∃ v d n, OpOk P o sl h nx v d n ∧ k v d n
theorem ok_move {x : Operand} (ho : o.op = .move x) (hk : k (ev sl x) [] 0) : Is P o sl h nx k :=
  ⟨_, _, _, okQuiet fun w p c F D a hev => ⟨_, by simp [execOp, ho], hev x⟩, hk⟩
theorem ok_assign {x : Operand} (ho : o.op = .assign x) (hk : k (ev sl x) [] 0) : Is P o sl h nx k :=
  ⟨_, _, _, okQuiet fun w p c F D a hev => ⟨_, by simp [execOp, ho], hev x⟩, hk⟩
theorem ok_pick {x y z : Operand} (ho : o.op = .pick x y z) (hk : opPick sl x y z k) : Is P o sl h nx k := by
  unfold opPick at hk
  split at hk
  · rename_i b hb
    cases b with
    | true => exact ⟨_, _, _, okQuiet fun w p c F D a hev => ⟨_, by have := (hb ▸ hev x : Rep w p c F D _ _).ex_inv; simp [execOp, ho, this, asBool], hev y⟩, hk⟩
    | false => exact ⟨_, _, _, okQuiet fun w p c F D a hev => ⟨_, by have := (hb ▸ hev x : Rep w p c F D _ _).ex_inv; simp [execOp, ho, this, asBool], hev z⟩, hk⟩
  · exact hk.elim
theorem ok_load {t : TypeId} {x : Operand} (ho : o.op = .load t x) (hk : opLoad P sl h t x k) : Is P o sl h nx k := by
  have run : ∀ {w : World} {a : Act} {ad : Addr} {u : Value}, a.eval x = .pointer (some ad) → (loadVar t ad).run P w = .ok u w → (execOp a.eval o).run P w = .ok (.value u) w := by
    intro w a ad u h1 h2
    simp [execOp, ho, Instr.loadAt, Instr.sureAddr, h1, h2]
  unfold opLoad at hk
  split at hk
  · rename_i r off hx
    split at hk
    · rename_i cs fz pu hb
      obtain ⟨v, hv, hl⟩ := loadA_ok (g := 0) (o := 0) hk
      refine ⟨_, _, _, okRead fun w p c F D a hev hlive => ?_, hv⟩
      obtain ⟨g, hd, hp, he⟩ := (hx ▸ hev x : Rep w p c F D _ _).ptr_inv
      obtain ⟨u, h1, h2⟩ := hl w D p c F g 0 ((hlive r _ hb).2.cells hp)
      rw [Nat.zero_add] at h1
      exact ⟨u, run he h1, h2⟩
    · rename_i cs e fz pu hb
      obtain ⟨v, hv, hl⟩ := loadE_ok hk
      refine ⟨_, _, _, okRead fun w p c F D a hev hlive => ?_, hv⟩
      obtain ⟨g, hd, hp, he⟩ := (hx ▸ hev x : Rep w p c F D _ _).ptr_inv
      obtain ⟨u, h1, h2⟩ := hl w D p c F g 0 ((hlive r _ hb).2.cells hp)
      rw [Nat.zero_add] at h1
      exact ⟨u, run he h1, h2⟩
    · exact hk.elim
  · rename_i cs off hx
    obtain ⟨v, hv, hl⟩ := loadA_ok (g := 0) (o := 0) hk
    refine ⟨_, _, _, okQuiet fun w p c F D a hev => ?_, hv⟩
    obtain ⟨g, q, u, he, hw⟩ := (hx ▸ hev x : Rep w p c F D _ _).vp_inv
    obtain ⟨u, h1, h2⟩ := hl w D p c F g q hw.cells
    exact ⟨u, run he h1, h2⟩
  · rename_i cs off hx
    obtain ⟨v, hv, hl⟩ := loadE_ok hk
    refine ⟨_, _, _, okQuiet fun w p c F D a hev => ?_, hv⟩
    obtain ⟨g, q, u, he, hw⟩ := (hx ▸ hev x : Rep w p c F D _ _).vq_inv
    obtain ⟨u, h1, h2⟩ := hl w D p c F g q hw.cells
    exact ⟨u, run he h1, h2⟩
  · exact hk.elim
theorem ok_fieldAddr {t : TypeId} {x : Operand} {f : Nat} (ho : o.op = .fieldAddr t x f) (hk : opFieldAddr P sl t x f k) : Is P o sl h nx k := by
  unfold opFieldAddr fieldOff at hk
  cases hu : P.underlying t with
  | none => rw [hu] at hk; exact hk.elim
  | some d =>
    rw [hu] at hk
    cases d
    case struct fs =>
      simp only at hk
      cases hf : fs[f]? with
      | none => rw [hf] at hk; exact hk.elim
      | some fd =>
        rw [hf] at hk
        simp only at hk
        cases hz : Nat.blt 0 (sizeT P fd.type) with
        | false => rw [hz] at hk; exact hk.elim
        | true =>
        rw [hz] at hk
        simp only at hk
        have run : ∀ {w : World} {a : Act} {g q : Nat}, a.eval x = .pointer (some ⟨g, q, none⟩) → (execOp a.eval o).run P w = .ok (.value (.pointer (some ⟨g, q + fd.offset, none⟩))) w := by
          intro w a g q h1
          obtain ⟨z1, z2⟩ := size_run (w := w) hz
          simp [execOp, ho, Instr.fieldAt, run_underlying hu, hf, Instr.sureAddr, h1, fieldPlace, Addr.add_lit, z1, z2]
        split at hk
        · rename_i r off hx
          refine ⟨_, _, _, okQuiet fun w p c F D a hev => ?_, hk⟩
          obtain ⟨g, hd, hp, he⟩ := (hx ▸ hev x : Rep w p c F D _ _).ptr_inv
          exact ⟨_, run he, .ptr _ _ _ _ hd hp⟩
        · rename_i cs off hx
          refine ⟨_, _, _, okQuiet fun w p c F D a hev => ?_, hk⟩
          obtain ⟨g, q, u, he, hw⟩ := (hx ▸ hev x : Rep w p c F D _ _).vp_inv
          exact ⟨_, run he, by rw [Nat.add_assoc]; exact .vp _ _ _ _ _ u hw.1 hw.2⟩
        · rename_i cs off hx
          refine ⟨_, _, _, okQuiet fun w p c F D a hev => ?_, hk⟩
          obtain ⟨g, q, u, he, hw⟩ := (hx ▸ hev x : Rep w p c F D _ _).vq_inv
          exact ⟨_, run he, by rw [Nat.add_assoc]; exact .vq _ _ _ _ _ u hw.1 hw.2⟩
        · exact hk.elim
    all_goals exact hk.elim
theorem ok_nilCheck {x : Operand} (ho : o.op = .nilCheck x) (hk : opNilCheck sl x k) : Is P o sl h nx k := by
  unfold opNilCheck at hk
  split at hk
  · rename_i r off hx
    refine ⟨_, _, _, okQuiet fun w p c F D a hev => ?_, hk⟩
    have h0 := (hx ▸ hev x : Rep w p c F D _ _)
    obtain ⟨g, hd, hp, he⟩ := h0.ptr_inv
    exact ⟨a.eval x, by simp [execOp, ho, he], h0⟩
  · rename_i cs off hx
    refine ⟨_, _, _, okQuiet fun w p c F D a hev => ?_, hk⟩
    have h0 := (hx ▸ hev x : Rep w p c F D _ _)
    obtain ⟨g, q, u, he, hw⟩ := h0.vp_inv
    exact ⟨a.eval x, by simp [execOp, ho, he], h0⟩
  · rename_i cs off hx
    refine ⟨_, _, _, okQuiet fun w p c F D a hev => ?_, hk⟩
    have h0 := (hx ▸ hev x : Rep w p c F D _ _)
    obtain ⟨g, q, u, he, hw⟩ := h0.vq_inv
    exact ⟨a.eval x, by simp [execOp, ho, he], h0⟩
  · exact hk.elim
theorem ok_extract {x : Operand} {i : Nat} (ho : o.op = .extract x i) (hk : opExtract sl x i k) : Is P o sl h nx k := by
  unfold opExtract at hk
  split at hk
  · rename_i vs hx
    split at hk
    · rename_i v hv
      refine ⟨_, _, _, okQuiet fun w p c F D a hev => ?_, hk⟩
      obtain ⟨us, he, hs, hr⟩ := (hx ▸ hev x : Rep w p c F D _ _).tup_inv
      obtain ⟨hlt, hv'⟩ := List.getElem?_eq_some_iff.1 hv
      have h1 := hr i hlt
      have hi : i < us.size := by omega
      refine ⟨us[i], ?_, ?_⟩
      · simp [execOp, ho, he, Instr.extract, hi]
      · rw [hv'] at h1; simpa [hi] using h1
    · exact hk.elim
  · rename_i vs hx
    split at hk
    · rename_i v hv
      refine ⟨_, _, _, okQuiet fun w p c F D a hev => ?_, hk⟩
      have he := (hx ▸ hev x : Rep w p c F D _ _).ex_inv
      exact ⟨v, by simp [execOp, ho, he, Instr.extract, hv], .ex _ _⟩
    · exact hk.elim
  · exact hk.elim
end
end Go.Proofs.Ytfonmnodjmeigaa.Av
