/- The abstract machine's operations are true of the model: calls, and what makes new blocks. No program's law is stated here. No conditions. -/
import Derived.Test.YtfonmnodjmeigaaAv5
import Derived.Lib.ConvBytes
namespace Go.Proofs.Ytfonmnodjmeigaa.Av
open Go Go.RowKit
set_option linter.unusedVariables false
set_option linter.unusedSimpArgs false

section
variable {P : Program} {w w' w0 : World} {D : Nat → Prop} {p : Nat → Option Nat} {c : Nat → Nat} {F F' F0 : Nat → Nat → Prop} {m : Nat} {slots : Sl} {heap : Hp} {a : Act}
/-- the world grows, and more is frozen in what is new -/
theorem Rel.grow (h : Rel P w0 F0 m D p c F slots heap a w) (hb : Below w.heap.size w w') (hF : ∀ g j, F g j → F' g j) (hF2 : ∀ g j, F' g j → F g j ∨ (w.heap.size ≤ g ∧ g < w'.heap.size)) :
    Rel P w0 F0 m D p c F' slots heap a w' := by
  have e : Ext w D p c F w' D p c F' := ⟨fun r hr => ⟨hr, rfl, rfl⟩, hF, (h.ext_below hb).cell⟩
  refine h.upd e (fun r b hr => ⟨(h.live r b hr).1, (h.live r b hr).2.mono (h.live r b hr).1 e fun g hg => hb.block g ((h.live r b hr).2.lt hg)⟩) h.inj h.own ?_ ?_ (h.below.trans (hb.mono h.below.size))
  · intro g j hj
    rcases hF2 g j hj with h1 | ⟨h1, h2⟩
    · exact ⟨Nat.lt_of_lt_of_le (h.fr g j h1).1 hb.size, (h.fr g j h1).2⟩
    · exact ⟨h2, .inr (Nat.le_trans h.below.size h1)⟩
  · intro r b g j hr hp hj
    rcases hF2 g j hj with h1 | ⟨h1, _⟩
    · exact h.fz r b g j hr hp h1
    · have := (h.live r b hr).2.lt hp; omega
/-- a nil slice becomes one of the call's own -/
theorem Rel.newNil (h : Rel P w0 F0 m D p c F slots heap a w) {r : Nat} (hr : ¬ D r) (e : TypeId) (fz pu : Bool) :
    Rel P w0 F0 m (addD D r) (setAt p r none) (setAt c r 0) F slots ((r, some ⟨[], some e, fz, pu⟩) :: heap) a w := by
  have hne : ∀ i, D i → i ≠ r := fun i hi e => hr (e ▸ hi)
  have ex : Ext w D p c F w (addD D r) (setAt p r none) (setAt c r 0) F := ⟨fun i hi => ⟨.inl hi, setAt_ne p _ (hne i hi), setAt_ne c _ (hne i hi)⟩, fun _ _ h => h, fun _ _ _ => rfl⟩
  have key : ∀ i b' g, look ((r, some ⟨[], some e, fz, pu⟩) :: heap) i = some (some b') → setAt p r none i = some g → look heap i = some (some b') ∧ p i = some g := by
    intro i b' g hi hp
    rw [look_cons] at hi
    by_cases hir : r = i
    · subst hir; rw [setAt_same] at hp; cases hp
    · rw [if_neg hir] at hi
      rw [setAt_ne p _ (Ne.symm hir)] at hp
      exact ⟨hi, hp⟩
  refine h.upd ex (fun i b' hi => ?_) (fun i i' b1 b2 g h1 h2 p1 p2 => ?_) (fun i b' g hi hp => h.own i b' g (key i b' g hi hp).1 (key i b' g hi hp).2) h.fr (fun i b' g j hi hp hj => h.fz i b' g j (key i b' g hi hp).1 (key i b' g hi hp).2 hj) h.below
  · rw [look_cons] at hi
    by_cases hir : r = i
    · subst hir; rw [if_pos rfl] at hi; injection hi with hi; injection hi with hi; subst hi
      refine ⟨.inr rfl, ?_⟩
      unfold BlkOk; rw [setAt_same]
      exact ⟨rfl, by rw [setAt_same], by simp⟩
    · rw [if_neg hir] at hi
      have := h.live i b' hi
      exact ⟨.inl this.1, this.2.mono this.1 ex fun _ _ => rfl⟩
  · exact h.inj i i' b1 b2 g (key i b1 g h1 p1).1 (key i' b2 g h2 p2).1 (key i b1 g h1 p1).2 (key i' b2 g h2 p2).2
/-- what a call hands over becomes one of the caller's own -/
theorem Rel.newOwn (h : Rel P w0 F0 m D p c F slots heap a w) (hb : Below w.heap.size w w') (hF : ∀ g j, F g j → F' g j) (hF2 : ∀ g j, F' g j → F g j ∨ (w.heap.size ≤ g ∧ g < w'.heap.size))
    {r e n : Nat} {cs : List AV} {x : Value} (hr : ¬ D r) (ho : OwnOk P w.heap.size w' p0 c0 F' e n cs x) :
    ∃ p' c', Rel P w0 F0 m (addD D r) p' c' F' slots ((r, some ⟨cs, some e, true, true⟩) :: heap) a w' ∧ Rep w' p' c' F' (addD D r) (.sl r n) x := by
  rcases ho with ⟨rfl, rfl, rfl⟩ | ⟨g, k, us, fr, rfl, h1, h2, h3, h4, h5, h6, h7, h8, h9⟩
  · refine ⟨_, _, (h.grow hb hF hF2).newNil hr e true true, ?_⟩
    have := Rep.sl (w := w') (p := setAt p r none) (c := setAt c r 0) (F := F') (addD D r) r 0 (.inr rfl) (by rw [setAt_same]; omega)
    rw [setAt_same, setAt_same] at this
    exact this
  · have hlt : g < w'.heap.size := by
      apply Classical.byContradiction
      intro hn
      rw [Array.getElem?_eq_none (by omega)] at h4
      cases h4
    refine ⟨setAt p r (some g), setAt c r k, h.new hb hr h1 hlt hF hF2 (fun j hj => ⟨rfl, h9 j hj⟩) ?_, ?_⟩
    · unfold BlkOk; rw [setAt_same]
      exact ⟨us, e, fr, h4, h5, h7, fun j hj => (h8 j hj).of_no, fun e' he => by injection he with he; subst he; rw [setAt_same]; exact ⟨rfl, h6, h3⟩⟩
    · have := Rep.sl (w := w') (p := setAt p r (some g)) (c := setAt c r k) (F := F') (addD D r) r n (.inr rfl) (by rw [setAt_same]; omega)
      rw [setAt_same, setAt_same] at this
      exact this
theorem unpackL_ok {base nx : Nat} : ∀ {vs vs' : List AV} {us : List Value} {d : Hp} {n : Nat}, RepRL P base w p c F vs us → unpackL nx vs = (vs', d, n) →
    us.length = vs'.length ∧ ((n = 0 ∧ d = [] ∧ ∀ j (h : j < vs'.length), Rep w p c F noD vs'[j] (us.getD j undef)) ∨
      (n = 1 ∧ ∃ e k cs x, d = [(nx, some ⟨cs, some e, true, true⟩)] ∧ OwnOk P base w p c F e k cs x ∧ ∀ (D' : Nat → Prop) p' c', Rep w p' c' F D' (.sl nx k) x → ∀ j (h : j < vs'.length), Rep w p' c' F D' vs'[j] (us.getD j undef)))
  | [], vs', [], d, n, h, hu => by
    simp [unpackL] at hu; obtain ⟨rfl, rfl, rfl⟩ := hu
    exact ⟨rfl, .inl ⟨rfl, rfl, fun j h => by simp at h⟩⟩
  | [], vs', _ :: _, d, n, h, hu => h.elim
  | v :: l, vs', [], d, n, h, hu => by cases v <;> exact h.elim
  | v :: l, vs', x :: us, d, n, h, hu => by
    by_cases hv : ∃ e k cs, v = .own e k cs
    · obtain ⟨e, k, cs, rfl⟩ := hv
      simp [unpackL] at hu; obtain ⟨rfl, rfl, rfl⟩ := hu
      obtain ⟨h1, h2, h3⟩ := h
      refine ⟨by simp [h2], .inr ⟨rfl, e, k, cs, x, rfl, h1, fun D' p' c' hr j hj => ?_⟩⟩
      cases j with
      | zero => exact hr
      | succ j => exact (h3 j (Nat.lt_of_succ_lt_succ hj)).of_no
    · have hn : RepRL P base w p c F (v :: l) (x :: us) → Rep w p c F noD v x ∧ RepRL P base w p c F l us := by
        intro h
        cases v <;> first | exact h | exact absurd ⟨_, _, _, rfl⟩ hv
      obtain ⟨h1, h2⟩ := hn h
      have hu' : unpackL nx (v :: l) = (v :: (unpackL nx l).1, (unpackL nx l).2.1, (unpackL nx l).2.2) := by
        cases v <;> first | rfl | exact absurd ⟨_, _, _, rfl⟩ hv
      rw [hu'] at hu
      simp only [Prod.mk.injEq] at hu
      obtain ⟨rfl, rfl, rfl⟩ := hu
      obtain ⟨k1, k2⟩ := unpackL_ok (nx := nx) h2 rfl
      refine ⟨by simp [k1], ?_⟩
      rcases k2 with ⟨q1, q2, q3⟩ | ⟨q1, e, k, cs, y, q2, q3, q4⟩
      · refine .inl ⟨q1, q2, fun j hj => ?_⟩
        cases j with
        | zero => exact h1
        | succ j => exact q3 j (Nat.lt_of_succ_lt_succ hj)
      · refine .inr ⟨q1, e, k, cs, y, q2, q3, fun D' p' c' hr j hj => ?_⟩
        cases j with
        | zero => exact h1.of_no
        | succ j => exact q4 D' p' c' hr j (Nat.lt_of_succ_lt_succ hj)
/-- a result, unpacked -/
theorem unpack_ok (h : Rel P w0 F0 m D p c F slots heap a w) (hb : Below w.heap.size w w') (hF : ∀ g j, F g j → F' g j) (hF2 : ∀ g j, F' g j → F g j ∨ (w.heap.size ≤ g ∧ g < w'.heap.size))
    {nx n : Nat} {r v : AV} {d : Hp} {x : Value} (hu : unpack nx r = (v, d, n)) (hr : ∀ i, nx ≤ i → i < nx + n → ¬ D i) (hR : RepR P w.heap.size w' p0 c0 F' r x) :
    ∃ D' p' c', Rel P w0 F0 m D' p' c' F' slots (d ++ heap) a w' ∧ Rep w' p' c' F' D' v x ∧ (∀ i, D' i ↔ D i ∨ (nx ≤ i ∧ i < nx + n)) := by
  have iff0 : ∀ i, D i ↔ D i ∨ (nx ≤ i ∧ i < nx + 0) := fun i => ⟨.inl, fun h => by rcases h with h | h; exact h; omega⟩
  have iff1 : ∀ i, addD D nx i ↔ D i ∨ (nx ≤ i ∧ i < nx + 1) := fun i => ⟨fun h => by rcases h with h | h; exact .inl h; exact .inr ⟨by omega, by omega⟩, fun h => by rcases h with h | h; exact .inl h; exact .inr (by omega)⟩
  have plain : ∀ {r : AV}, unpack nx r = (r, [], 0) → RepR P w.heap.size w' p0 c0 F' r x → (RepR P w.heap.size w' p0 c0 F' r x → Rep w' p0 c0 F' noD r x) → unpack nx r = (v, d, n) →
      ∃ D' p' c', Rel P w0 F0 m D' p' c' F' slots (d ++ heap) a w' ∧ Rep w' p' c' F' D' v x ∧ (∀ i, D' i ↔ D i ∨ (nx ≤ i ∧ i < nx + n)) := by
    intro r e hR hp hu
    rw [e] at hu
    simp only [Prod.mk.injEq] at hu
    obtain ⟨rfl, rfl, rfl⟩ := hu
    exact ⟨D, p, c, h.grow hb hF hF2, (hp hR).of_no, iff0⟩
  cases r with
  | own e k cs =>
    simp [unpack, unpackV] at hu
    obtain ⟨rfl, rfl, rfl⟩ := hu
    obtain ⟨p', c', h1, h2⟩ := h.newOwn hb hF hF2 (hr nx (Nat.le_refl _) (by omega)) hR
    exact ⟨_, p', c', h1, h2, iff1⟩
  | tup vs =>
    obtain ⟨us, rfl, hL⟩ := hR
    simp only [unpack, Prod.mk.injEq] at hu
    obtain ⟨rfl, rfl, rfl⟩ := hu
    obtain ⟨k1, k2⟩ := unpackL_ok (nx := nx) hL rfl
    rcases k2 with ⟨q1, q2, q3⟩ | ⟨q1, e, k, cs, y, q2, q3, q4⟩
    · rw [q1, q2]
      exact ⟨D, p, c, h.grow hb hF hF2, .tup _ _ us.toArray (by simpa using k1) fun j hj => by rw [getD_toArray]; exact (q3 j hj).of_no, iff0⟩
    · rw [q1, q2]
      obtain ⟨p', c', h1, h2⟩ := h.newOwn hb hF hF2 (hr nx (Nat.le_refl _) (by omega)) q3
      exact ⟨_, p', c', h1, .tup _ _ us.toArray (by simpa using k1) fun j hj => by rw [getD_toArray]; exact q4 _ p' c' h2 j hj, iff1⟩
  | _ => exact plain rfl hR id hu
theorem evL_length (sl : Sl) : ∀ l, (evL sl l).length = l.length
  | [] => rfl
  | x :: l => by simp [evL, evL_length sl l]
theorem evL_at (sl : Sl) : ∀ (l : List Operand) (j : Nat) (h : j < l.length), (evL sl l)[j]'(by rw [evL_length]; exact h) = ev sl l[j]
  | [], j, h => by simp at h
  | x :: l, 0, h => rfl
  | x :: l, j + 1, h => evL_at sl l j (Nat.lt_of_succ_lt_succ h)
end

section
variable {P : Program} {o : Oper} {sl : Sl} {h : Hp} {nx : Nat} {k : Kt}
theorem ok_callV {cl : Call} {f : Operand} (ho : o.op = .call cl) (hc : cl.callee = .value f) (hk : opCallV (Sound P) sl h nx f cl.args.toList k) : Is P o sl h nx k := by
  unfold opCallV at hk
  split at hk
  · rename_i fid fst cap hf
    split at hk
    case h_2 => exact hk.elim
    rename_i hq1 hq2
    obtain rfl : fst = #[] := by simpa using hq1
    obtain rfl : cap = #[] := by simpa using hq2
    split at hk
    · rename_i vs fr hp
      rw [forceCs_eq] at hk
      obtain ⟨r, hs, hk⟩ := hk
      generalize hu : unpack nx r = q at hk
      obtain ⟨v, d, n⟩ := q
      refine ⟨v, d ++ freezes h fr, n, ?_, hk⟩
      intro w0 F0 m D p c F slots heap a w next Q hrel hev hh hfresh hnext
      obtain ⟨F1, g1, g2, g3, g4⟩ := hrel.freezes_ fr (viewF_of hh)
      have hargs := packVs_ok (us := (cl.args.map a.eval).toList) hp (by rw [evL_length]; simp) (fun j hj => by
          have hj' : j < cl.args.toList.length := by rw [evL_length] at hj; exact hj
          have hj2 : j < cl.args.size := by simpa using hj'
          rw [evL_at sl _ j hj']
          have : (cl.args.map a.eval).toList.getD j undef = a.eval cl.args.toList[j] := by simp [List.getD, hj2]
          rw [this]
          exact (hev _).mono ⟨fun i hi => ⟨hi, rfl, rfl⟩, g2, fun _ _ _ => rfl⟩)
        (fun r b hb => (hrel.live r b (hh r b hb)).2.mono (hrel.live r b (hh r b hb)).1 ⟨fun i hi => ⟨hi, rfl, rfl⟩, g2, fun _ _ _ => rfl⟩ fun _ _ => rfl) g4
      have hfv := (hf ▸ hev f : Rep w p c F D _ _).ex_inv
      have hrun : (execOp a.eval o).run P w = .ok (.enter fid (cl.args.map a.eval)) w := by
        have := hs.1 (cl.args.map a.eval) w
        simp [execOp, ho, resolve, hc, hfv, Deferred.ofValue, invoke, this]
      unfold Oper.wp
      rw [hrun]
      refine (hs.2 w F1 (cl.args.map a.eval) (by rw [hargs.1, evL_length]; simp) (fun j hj => ?_) (fun g j hj => (g1.fr g j hj).1)).mono ?_
      · have := hargs.2 j hj
        have e : (cl.args.map a.eval).toList.getD j undef = (cl.args.map a.eval).getD j undef := by simp [List.getD]
        rw [e] at this
        exact this.of_no
      · rintro e w' ⟨x, F', rfl, hb, hF, hF2, hR⟩
        obtain ⟨D', p', c', h1, h2, h3⟩ := unpack_ok g1 hb hF hF2 hu hfresh hR
        rw [← List.append_assoc] at h1
        exact hnext x w' D' p' c' F' h1 h2 h3
    · exact hk.elim
  · exact hk.elim

/-- a new block -/
theorem okNew {v : AV} {b : ABlk} (hv : v = .ptr nx 0 ∨ ∃ n, v = .sl nx n) (hr : ∀ (w : World) (p : Nat → Option Nat) (c : Nat → Nat) (F : Nat → Nat → Prop) (D : Nat → Prop) (a : Act),
    (∀ x, Rep w p c F D (ev sl x) (a.eval x)) → (∀ r b, blkOf h r = some b → D r ∧ BlkOk P w D p c F r b) → ∃ (w' : World) (us : Array Value) (t : TypeId) (fr : Nat × Nat) (k : Nat),
      (execOp a.eval o).run P w = .ok (.value (match v with | .sl _ n => .slice (some ⟨w.heap.size, 0, none⟩) n k | _ => .pointer (some ⟨w.heap.size, 0, none⟩))) w' ∧ Below w.heap.size w w' ∧ w'.heap[w.heap.size]? = some (.cells us t fr) ∧
      us.size ≤ fr.1 + (if fr.1 = fr.2 then us.size else 0) ∧ b.cells.length ≤ us.size ∧ (∀ j (h : j < b.cells.length), Rep w p c F (if b.pu then noD else D) b.cells[j] (us.getD j undef)) ∧
      (∀ e, b.el = some e → t = e ∧ us.size = k * sizeT P e ∧ k ≤ 9223372036854775807) ∧ (∀ n, v = .sl nx n → n ≤ k)) : OpOk P o sl h nx v [(nx, some b)] 1 := by
  intro w0 F0 m D p c F slots heap a w next Q hrel hev hh hfresh hnext
  obtain ⟨w', us, t, fr, k, hrun, hb, hg, hfr, hl, hcs, hel, hn⟩ := hr w p c F D a hev fun r b hb => hrel.live r b (hh r b hb)
  have hnd := hfresh nx (Nat.le_refl _) (by omega)
  have hlt : w.heap.size < w'.heap.size := by
    apply Classical.byContradiction
    intro hn
    rw [Array.getElem?_eq_none (by omega)] at hg
    cases hg
  have hF3 : ∀ j, ¬ F w.heap.size j := fun j hj => by have := (hrel.fr _ _ hj).1; omega
  have ext := hrel.ext_below hb
  have hne : ∀ i, D i → i ≠ nx := fun i hi e => hnd (e ▸ hi)
  have ext2 : Ext w D p c F w' (addD D nx) (setAt p nx (some w.heap.size)) (setAt c nx k) F := ⟨fun i hi => ⟨.inl hi, setAt_ne p _ (hne i hi), setAt_ne c _ (hne i hi)⟩, fun _ _ h => h, ext.cell⟩
  have hB : BlkOk P w' (addD D nx) (setAt p nx (some w.heap.size)) (setAt c nx k) F nx b := by
    unfold BlkOk; rw [setAt_same]
    refine ⟨us, t, fr, hg, hfr, hl, fun j hj => ?_, fun e he => by rw [setAt_same]; exact hel e he⟩
    have := hcs j hj
    cases hpu : b.pu with
    | true => rw [hpu] at this; exact this.mono ext2.no
    | false => rw [hpu] at this; exact this.mono ext2
  have hnew := hrel.new hb hnd (Nat.le_refl _) hlt (fun _ _ h => h) (fun g j hj => .inl hj) (fun j hj => absurd hj (hF3 j)) hB
  refine wp_value hrun (hnext _ w' _ _ _ F hnew ?_ fun i => ⟨fun h => by rcases h with h | h; exact .inl h; exact .inr ⟨by omega, by omega⟩, fun h => by rcases h with h | h; exact .inl h; exact .inr (by omega)⟩)
  rcases hv with rfl | ⟨n, rfl⟩
  · exact .ptr _ nx 0 _ (.inr rfl) (setAt_same _ _ _)
  · have := Rep.sl (w := w') (p := setAt p nx (some w.heap.size)) (c := setAt c nx k) (F := F) (addD D nx) nx n (.inr rfl) (by rw [setAt_same]; exact hn n rfl)
    rw [setAt_same, setAt_same] at this
    exact this
theorem below_alloc (w : World) (o : Obj) : Below w.heap.size w (w.alloc o) := (Below.refl _ _).alloc (Nat.le_refl _) o
theorem ok_alloc {t : TypeId} (ho : o.op = .alloc t) (hk : opAlloc P nx t k) : Is P o sl h nx k := by
  unfold opAlloc at hk
  split at hk
  · rename_i z hz
    rw [forceCs_eq] at hk
    refine ⟨_, _, _, okNew (.inl rfl) fun w p c F D a hev hl => ⟨w.alloc (.cells z.cells t), z.cells, t, (0, 0), 0, ?_, below_alloc w _, heap_alloc_new w _, by simp, ?_, fun j hj => ?_, (fun e he => by cases he), (fun n hn => by cases hn)⟩, hk⟩
    · have hi : ∃ i, P.info? t = some i ∧ i.zero = some z := by
        unfold zeroT at hz
        cases hi : P.info? t with
        | none => rw [hi] at hz; cases hz
        | some i => rw [hi] at hz; exact ⟨i, rfl, hz⟩
      obtain ⟨i, hi, hz⟩ := hi
      simp [execOp, ho, Instr.alloc, zeroValue, typeInfo, hi, hz, newVar, newRow]
    · cases z <;> simp [AV.cells, Value.cells]
    · have := (Rep.ex (w := w) (p := p) (c := c) (F := F) noD z).cells (by simp)
      exact this.2 j hj
  · exact hk.elim
theorem known_ok {v : AV} {k : Prop} (h : known v k) : v ≠ .unk ∧ k := by
  unfold known at h
  cases hv : isUnk v with
  | true => rw [hv] at h; exact h.elim
  | false => rw [hv] at h; exact ⟨(fun e => by rw [e] at hv; cases hv), h⟩
theorem Rep.pureC_ {w : World} {p : Nat → Option Nat} {c : Nat → Nat} {F : Nat → Nat → Prop} {D : Nat → Prop} {v : AV} {x : Value} (h : Rep w p c F D v x) (hp : pureC v = true) : Rep w p c F noD v x := by
  cases h with
  | ex D v => exact .ex _ _
  | unk D v => exact .unk _ _
  | vnil => exact .vnil _
  | vs D n cs g o k u h1 h2 h3 => exact .vs _ n cs g o k u h1 h2 h3
  | vp D cs off g o u h2 h3 => exact .vp _ cs off g o u h2 h3
  | vq D cs off g o u h2 h3 => exact .vq _ cs off g o u h2 h3
  | _ => cases hp
/-- the cells of a value, as they are laid down -/
theorem Rep.cellsP {w : World} {p : Nat → Option Nat} {c : Nat → Nat} {F : Nat → Nat → Prop} {D : Nat → Prop} {v : AV} {x : Value} (h : Rep w p c F D v x) (hu : v ≠ .unk) :
    x.cells.size = v.cells.length ∧ ∀ j (hj : j < v.cells.length), Rep w p c F (if pureV v then noD else D) v.cells[j] (x.cells.getD j undef) := by
  obtain ⟨h1, h2⟩ := h.cells hu
  refine ⟨h1, fun j hj => ?_⟩
  cases hp : pureV v with
  | false => exact h2 j hj
  | true =>
    have h3 := h2 j hj
    refine h3.pureC_ ?_
    cases v with
    | agg cs =>
      simp only [pureV, List.all_eq_true] at hp
      exact hp _ (List.getElem_mem _)
    | ex v =>
      cases v with
      | agg cs => simp [AV.cells, pureC]
      | _ => simp [AV.cells, pureC]
    | unk => exact absurd rfl hu
    | vs n cs => simp [AV.cells, pureC]
    | vp n cs => simp [AV.cells, pureC]
    | vq n cs => simp [AV.cells, pureC]
    | _ => cases hp
theorem ok_box {t : TypeId} {x : Operand} (ho : o.op = .box t x) (hk : opBox sl nx x k) : Is P o sl h nx k := by
  unfold opBox at hk
  obtain ⟨hu, hk⟩ := known_ok hk
  rw [forceV_eq, forceCs_eq, forceB_eq] at hk
  refine ⟨_, _, _, okNew (.inl rfl) fun w p c F D a hev hl => ⟨w.alloc (.cells (a.eval x).cells t), (a.eval x).cells, t, (0, 0), 0, ?_, below_alloc w _, heap_alloc_new w _, by simp, ?_, fun j hj => ?_, (fun e he => by cases he), (fun n hn => by cases hn)⟩, hk⟩
  · simp [execOp, ho, Instr.box, newVar, newRow]
  · exact Nat.le_of_eq ((hev x).cellsP hu).1.symm
  · exact ((hev x).cellsP hu).2 j hj
end
end Go.Proofs.Ytfonmnodjmeigaa.Av
