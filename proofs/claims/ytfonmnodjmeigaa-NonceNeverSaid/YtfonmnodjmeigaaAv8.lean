/- The abstract machine's operations are true of the model: append, make, copy, conversions. No program's law is stated here. No conditions. -/
import Derived.Test.YtfonmnodjmeigaaAv7
namespace Go.Proofs.Ytfonmnodjmeigaa.Av
open Go Go.RowKit
set_option linter.unusedVariables false
set_option linter.unusedSimpArgs false

section
variable {w : World} {D : Nat → Prop} {p : Nat → Option Nat} {c : Nat → Nat} {F F0 : Nat → Nat → Prop} {P : Program} {w0 w' : World} {m : Nat} {slots : Sl} {heap : Hp} {a : Act}
theorem pu_and {x y : Bool} {v : AV} {u : Value} (h : Rep w p c F (if x then noD else D) v u) : Rep w p c F (if x && y then noD else D) v u := by
  cases x
  · exact h
  · cases y
    · exact h.of_no
    · exact h
theorem pu_and' {x y : Bool} {v : AV} {u : Value} (h : Rep w p c F (if y then noD else D) v u) : Rep w p c F (if x && y then noD else D) v u := by
  rw [Bool.and_comm]; exact pu_and h
theorem info_of {e : TypeId} (h : Nat.blt 0 (sizeT P e) = true) : ∃ i, P.info? e = some i ∧ i.size = sizeT P e ∧ i.bytes = bytesT P e := by
  have h0 := (size_run (P := P) (w := default) h).2
  cases hi : P.info? e with
  | none => exact absurd (by simp [sizeT, hi]) h0
  | some i => exact ⟨i, rfl, by simp [sizeT, hi], by simp [bytesT, hi]⟩
/-- what a slice that is read yields -/
theorem readS_ok {h : Hp} {v : AV} {x : Value} {n : Nat} {cs : List AV} {px : Bool} {tx e' : TypeId} {size : Nat} (hs : readS h v = some (n, cs, px)) (hr : Rep w p c F D v x) (hl : ∀ r b, blkOf h r = some b → BlkOk P w D p c F r b)
    (htx : P.underlying tx = some (.slice e')) (hlen : cs.length = n * size) (hone : ∀ v ∈ cs, one1 v = true) :
    ∃ news : List Value, Src P size tx x n news w ∧ news.length = cs.length ∧ ∀ j (h : j < cs.length), Rep w p c F (if px then noD else D) cs[j] (news.getD j undef) := by
  have mk : ∀ (g o k : Nat) (u : Nat → Value), (∀ j, j < cs.length → w.cell? ⟨g, o + j, none⟩ = some (u j)) → (∀ j (h : j < cs.length), Rep w p c F (if px then noD else D) cs[j] (u j)) → x = .slice (some ⟨g, o, none⟩) n k →
      ∃ news : List Value, Src P size tx x n news w ∧ news.length = cs.length ∧ ∀ j (h : j < cs.length), Rep w p c F (if px then noD else D) cs[j] (news.getD j undef) := by
    intro g o k u hc hr hx
    have hat : ∀ j (h : j < cs.length), ((List.range cs.length).map u).getD j undef = u j := by intro j h; simp [List.getD, h]
    refine ⟨(List.range cs.length).map u, ?_, by simp, fun j h => by rw [hat j h]; exact hr j h⟩
    rw [hx]
    refine Src.ofSlice w htx ⟨g, o, none⟩ n k _ (by simp [hlen]) (fun j v hv => ?_) (fun v hv => ?_)
    · have hj : j < cs.length := by
        have := (List.getElem?_eq_some_iff.1 hv).1; simpa using this
      have e := hat j hj
      rw [List.getD, hv] at e
      rw [Addr.add_lit, hc j hj]; exact congrArg some e.symm
    · obtain ⟨j, hj, rfl⟩ := List.mem_map.1 hv
      have hj' : j < cs.length := by simpa using hj
      exact one1_ok (hr j hj') (hone _ (List.getElem_mem _))
  have nil : n = 0 → cs = [] → x = .slice none 0 0 → ∃ news : List Value, Src P size tx x n news w ∧ news.length = cs.length ∧ ∀ j (h : j < cs.length), Rep w p c F (if px then noD else D) cs[j] (news.getD j undef) := by
    rintro rfl rfl rfl
    exact ⟨[], Src.ofNil w htx 0, rfl, fun j h => by simp at h⟩
  unfold readS at hs
  split at hs
  · simp only [Option.some.injEq, Prod.mk.injEq] at hs
    obtain ⟨rfl, rfl, rfl⟩ := hs
    rcases hr.vs_inv with ⟨h1, h2, h3⟩ | ⟨g, o, k, u, h1, h2, h3⟩
    · exact nil h1 h2 h3
    · exact mk g o k u (fun j hj => (h3.1 j hj).2) (fun j hj => h3.2 j hj) h2
  · rename_i r n' 
    split at hs
    · rename_i cs' el fz pu hb
      simp only [Option.some.injEq, Prod.mk.injEq] at hs
      obtain ⟨rfl, rfl, rfl⟩ := hs
      obtain ⟨hd, hn, hx⟩ := hr.sl_inv
      have hB := hl r _ hb
      cases hp : p r with
      | none =>
        unfold BlkOk at hB
        rw [hp] at hB
        obtain ⟨q1, q2, _⟩ := hB
        simp only at q1
        have : n' = 0 := by omega
        rw [hp, q2, this] at hx
        exact nil this q1 hx
      | some g =>
        obtain ⟨us, t, frz, k1, k2, k3, k4, k5⟩ := hB.at hp
        rw [hp] at hx
        exact mk g 0 (c r) (fun j => us.getD j undef) (fun j hj => by rw [Nat.zero_add]; exact cell_at k1 (by simp only at k3; omega)) k4 hx
    · cases hs
  · simp only [Option.some.injEq, Prod.mk.injEq] at hs
    obtain ⟨rfl, rfl, rfl⟩ := hs
    exact nil rfl rfl hr.ex_inv
  · cases hs
theorem byte_src {tx : TypeId} (htx : P.underlying tx = some .string) (b : ByteArray) : Src P 1 tx (.string b) b.size (byteCells b) w ∧ (byteCells b).length = (bytesA b.data.toList).length ∧
    ∀ j (h : j < (bytesA b.data.toList).length), Rep w p c F noD (bytesA b.data.toList)[j] ((byteCells b).getD j undef) := by
  refine ⟨Src.ofString w htx b, by simp [byteCells, bytesA], fun j hj => ?_⟩
  have hj' : j < b.data.toList.length := by simpa [bytesA] using hj
  have e1 : (bytesA b.data.toList)[j] = byteA b.data.toList[j] := by simp [bytesA]
  have hj2 : j < b.data.size := by simpa using hj'
  have e2 : (byteCells b).getD j undef = .int .u8 (b.data.toList[j].toNat : Int) := by
    have e3 : b.data[j]? = some b.data[j] := Array.getElem?_eq_getElem hj2
    simp [byteCells, List.getD, e3]
  rw [e1, e2]; exact .ex _ _
theorem olds_run {g : Nat} {us : Array Value} {t : TypeId} {fr : Nat × Nat} {size n k : Nat} (hg : w.heap[g]? = some (.cells us t fr)) (h : n * size ≤ us.size) :
    (Builtin.firstCells size n (.slice (some ⟨g, 0, none⟩) n k)).run P w.drew = .ok (us.toList.take (n * size)).toArray w.drew := by
  refine run_firstCells_some w.drew size n ⟨g, 0, none⟩ n k (us.toList.take (n * size)) (by simp; omega) fun j u hu => ?_
  have hj := (List.getElem?_eq_some_iff.1 hu).1
  rw [List.length_take] at hj
  rw [Addr.add_lit, Nat.zero_add]
  have : w.drew.cell? ⟨g, j, none⟩ = w.cell? ⟨g, j, none⟩ := rfl
  rw [this, cell_at hg (by simp at hj; omega)]
  rw [List.getElem?_take_of_lt (by omega)] at hu
  have hj2 : j < us.size := by simp at hj; omega
  simp [hj2] at hu ⊢
  exact hu
end

section
variable {P : Program} {o : Oper} {sl : Sl} {h : Hp} {nx : Nat} {k : Kt}
theorem drew_below {w w' : World} (h : Below w.drew.heap.size w.drew w') : Below w.heap.size w w' := ⟨h.os, h.tape, h.output, h.size, h.block⟩
/-- append, whatever is appended -/
theorem ok_appendOn {cl : Call} {s x : Operand} {t tx e : TypeId} {mm : Nat} {ds : List AV} {px : Bool} {pre : Prop} (ho : o.op = .call cl) (hc : cl.callee = .builtin .append) (ha : cl.args = #[s, x]) (ht : cl.argTypes = #[t, tx])
    (hu : P.underlying t = some (.slice e))
    (hsrc : pre → ds.length = mm * sizeT P e ∧ ∀ (w : World) (p : Nat → Option Nat) (c : Nat → Nat) (F : Nat → Nat → Prop) (D : Nat → Prop) (a : Act), (∀ x, Rep w p c F D (ev sl x) (a.eval x)) → (∀ r b, blkOf h r = some b → BlkOk P w D p c F r b) →
      ∃ news : List Value, Src P (sizeT P e) tx (a.eval x) mm news w ∧ news.length = ds.length ∧ ∀ j (h : j < ds.length), Rep w p c F (if px then noD else D) ds[j] (news.getD j undef))
    (hk : appendOn P sl h nx e s mm ds px pre k) : Is P o sl h nx k := by
  unfold appendOn at hk
  split at hk
  case h_2 => exact hk.elim
  rename_i z hz
  split at hk
  case h_2 => exact hk.elim
  rename_i hzs hpos hbp
  obtain ⟨i, hi, his, hib⟩ := info_of hpos
  have hz' : i.zero = some z := by unfold zeroT at hz; rw [hi] at hz; exact hz
  have hzs' : z.cells.size = i.size := by rw [his]; exact Nat.eq_of_beq_eq_true hzs
  have hbpos : 0 < i.bytes := by
    have : 1 ≤ bytesT P e := by simpa [Nat.blt, Nat.ble_eq] using hbp
    omega
  have hspos : 0 < sizeT P e := Nat.pos_of_ne_zero (size_run (P := P) (w := default) hpos).2
  have runs : ∀ {a : Act} {w w' : World} {u : Value}, (Builtin.append_ #[t, tx] o.type #[a.eval s, a.eval x]).run P w = .ok u w' → (execOp a.eval o).run P w = .ok (.value u) w' := by
    intro a w w' u h1
    simp [execOp, ho, resolve, hc, ha, ht, invoke, builtin, h1]
  -- the arm that makes a new row
  have grown : ∀ {w0 : World} {F0 : Nat → Nat → Prop} {m : Nat} {D : Nat → Prop} {p : Nat → Option Nat} {c : Nat → Nat} {F : Nat → Nat → Prop} {slots : Sl} {heap heap' : Hp} {a : Act} {w : World} {next : Act → World → Prop} {Q : Exit → Act → World → Prop}
      {base : Option Addr} {n kc : Nat} {cs : List AV} {olds news : List Value} {fz pu : Bool} {d : Hp},
      Rel P w0 F0 m D p c F slots heap a w → ¬ D nx → a.eval s = .slice base n kc → kc < n + mm → room (n + mm) (bytesT P e) →
      (Builtin.firstCells i.size n (.slice base n kc)).run P w.drew = .ok olds.toArray w.drew → olds.length = cs.length → cs.length = n * sizeT P e → ds.length = mm * sizeT P e →
      Src P (sizeT P e) tx (a.eval x) mm news w → news.length = ds.length → (∀ j (h : j < cs.length), Rep w p c F (if pu then noD else D) cs[j] (olds.getD j undef)) → (∀ j (h : j < ds.length), Rep w p c F (if px then noD else D) ds[j] (news.getD j undef)) →
      (∀ r b, look (d ++ heap) r = some (some b) → look ((nx, some ⟨cs ++ ds, some e, fz, pu && px⟩) :: heap) r = some (some b)) →
      (∀ y w' D' p' c' F', Rel P w0 F0 m D' p' c' F' slots (d ++ heap) a w' → Rep w' p' c' F' D' (.sl nx (n + mm)) y → (∀ i, D' i ↔ D i ∨ (nx ≤ i ∧ i < nx + 1)) → next (a.put o.dst y) w') →
      o.wp P a w next Q := by
    intro w0 F0 m D p c F slots heap heap' a w next Q base n kc cs olds news fz pu d hrel hnd hs hg hroom hold hol hcl hdl hsr hnl hco hdo hd hnext
    obtain ⟨hr1, hr2⟩ := hroom
    rw [← hib] at hr2
    have hcell : n + mm ≤ grownCap w (n + mm) kc e := grownCap_ge w (n + mm) kc e
    have hmax : grownCap w (n + mm) kc e ≤ maxLen := grownCap_le_maxLen w (n + mm) kc e (by unfold maxLen; omega)
    have hrun := run_append_grow_src (P := P) w t tx o.type e i z hu hi hz' base n kc olds hold (a.eval x) mm news (by rw [his]; exact hsr) hg (by omega) (growslice_fits hg hr2)
    rw [← hs] at hrun
    have hoks : (olds ++ news).length = (n + mm) * i.size := by rw [List.length_append, hol, hnl, hcl, hdl, his, Nat.add_mul]
    have hb : Below w.heap.size w (w.drew.alloc (.cells ((olds ++ news).toArray ++ Builtin.zeroCells z.cells (grownCap w (n + mm) kc e - (n + mm))) e)) := drew_below (below_alloc w.drew _)
    have hF3 : ∀ j, ¬ F w.heap.size j := fun j hj => by have := (hrel.fr _ _ hj).1; omega
    have hne : ∀ i, D i → i ≠ nx := fun i hi e => hnd (e ▸ hi)
    have hnew := hrel.new (b := ⟨cs ++ ds, some e, fz, pu && px⟩) (k := grownCap w (n + mm) kc e) hb hnd (Nat.le_refl _) (by simp) (fun _ _ h => h) (fun g j hj => .inl hj) (fun j hj => absurd hj (hF3 j)) (by
      have ext := hrel.ext_below hb
      have ext2 : Ext w D p c F _ (addD D nx) (setAt p nx (some w.heap.size)) (setAt c nx (grownCap w (n + mm) kc e)) F := ⟨fun i hi => ⟨.inl hi, setAt_ne p _ (hne i hi), setAt_ne c _ (hne i hi)⟩, fun _ _ h => h, ext.cell⟩
      unfold BlkOk; rw [setAt_same]
      refine ⟨_, e, (0, 0), heap_alloc_new w.drew _, by simp, ?_, fun j hj => ?_, fun e' he => ?_⟩
      · simp only [List.length_append, Array.size_append, List.size_toArray]; omega
      · have hj' : j < cs.length + ds.length := by simpa using hj
        have key : Rep w p c F (if pu && px then noD else D) (cs ++ ds)[j] ((olds ++ news).getD j undef) := by
          by_cases h1 : j < cs.length
          · have e1 : (cs ++ ds)[j] = cs[j] := List.getElem_append_left h1
            have e2 : (olds ++ news).getD j undef = olds.getD j undef := by simp only [List.getD]; rw [List.getElem?_append_left (by omega)]
            rw [e1, e2]; exact pu_and (hco j h1)
          · have e1 : (cs ++ ds)[j] = ds[j - cs.length] := List.getElem_append_right (by omega)
            have e2 : (olds ++ news).getD j undef = news.getD (j - cs.length) undef := by simp only [List.getD]; rw [List.getElem?_append_right (by omega), hol]
            rw [e1, e2]; exact pu_and' (hdo (j - cs.length) (by omega))
        have e3 : ((olds ++ news).toArray ++ Builtin.zeroCells z.cells (grownCap w (n + mm) kc e - (n + mm))).getD j undef = (olds ++ news).getD j undef := by
          have : j < (olds ++ news).length := by rw [List.length_append]; omega
          simp only [Array.getD_eq_getD_getElem?, List.getD]
          rw [Array.getElem?_append_left (by simpa using this)]
          simp
        rw [e3]
        cases hpu : (pu && px) with
        | true => rw [hpu] at key; exact key.mono ext2.no
        | false => rw [hpu] at key; exact key.mono ext2
      · injection he with he; subst he
        rw [setAt_same]
        refine ⟨rfl, ?_, by unfold maxLen at hmax; omega⟩
        rw [Array.size_append, size_zeroCells, hzs', List.size_toArray, hoks, ← Nat.add_mul, his]
        congr 1
        omega)
    refine wp_value (runs hrun) (hnext _ _ _ _ _ F (hnew.weaken (fun t v h => .inr h) hd) ?_ fun i => ⟨fun h => by rcases h with h | h; exact .inl h; exact .inr ⟨by omega, by omega⟩, fun h => by rcases h with h | h; exact .inl h; exact .inr (by omega)⟩)
    have := Rep.sl (w := w.drew.alloc (.cells ((olds ++ news).toArray ++ Builtin.zeroCells z.cells (grownCap w (n + mm) kc e - (n + mm))) e)) (p := setAt p nx (some w.heap.size)) (c := setAt c nx (grownCap w (n + mm) kc e)) (F := F) (addD D nx) nx (n + mm) (.inr rfl) (by rw [setAt_same]; exact hcell)
    rw [setAt_same, setAt_same] at this
    exact this
  split at hk
  case h_3 => exact hk.elim
  · rename_i r n hs
    split at hk
    case h_2 => exact hk.elim
    rename_i cs e' fz pu hb
    split at hk
    case h_2 => exact hk.elim
    rename_i hee
    obtain rfl : e = e' := Nat.eq_of_beq_eq_true hee
    obtain ⟨⟨hroom, hcl, hpre⟩, hk⟩ := hk
    obtain ⟨hdl, hsrc⟩ := hsrc hpre
    refine ⟨_, _, _, ?_, hk⟩
    intro w0 F0 m D p c F slots heap a w next Q hrel hev hh hfresh hnext
    have hnd := hfresh nx (Nat.le_refl _) (by omega)
    have hlook := hh r _ hb
    obtain ⟨news, hsr, hnl, hdo⟩ := hsrc w p c F D a hev fun r b hb => (hrel.live r b (hh r b hb)).2
    obtain ⟨hd, hn, hsv⟩ := (hs ▸ hev s : Rep w p c F D _ _).sl_inv
    have hB := (hrel.live r _ hlook).2
    have hrn : r ≠ nx := fun e => hnd (e ▸ hd)
    have hdrop : ∀ b', ∀ i b, look ([(nx, some b'), (r, none)] ++ heap) i = some (some b) → look ((nx, some b') :: heap) i = some (some b) := by
      intro b' i b hi
      rw [List.cons_append, look_cons] at hi
      rw [look_cons]
      by_cases e1 : nx = i
      · rw [if_pos e1] at hi ⊢; exact hi
      · rw [if_neg e1] at hi ⊢
        rw [List.cons_append, look_cons] at hi
        by_cases e2 : r = i
        · rw [if_pos e2] at hi; injection hi with hi; cases hi
        · rw [if_neg e2] at hi; exact hi
    cases hp : p r with
    | none =>
      unfold BlkOk at hB
      rw [hp] at hB
      obtain ⟨q1, q2, _⟩ := hB
      simp only at q1
      subst q1
      obtain rfl : n = 0 := by omega
      rw [hp, q2] at hsv
      rcases Nat.eq_zero_or_pos mm with hm | hm
      · subst hm
        have hds : ds = [] := List.eq_nil_of_length_eq_zero (by rw [hdl, Nat.zero_mul])
        subst hds
        obtain rfl : news = [] := List.eq_nil_of_length_eq_zero (by rw [hnl]; rfl)
        have hrun := run_append_nothing (P := P) w t tx o.type e i hu hi none 0 0 (Nat.le_refl _) (a.eval x) (by rw [his]; exact hsr)
        have hrun' : (Builtin.append_ #[t, tx] o.type #[a.eval s, a.eval x]).run P w = .ok (.slice none 0 0) w := by rw [hsv]; exact hrun
        have hnew := (hrel.newNil hnd e fz (pu && px)).weaken (fun t v h => .inr h) (hdrop ⟨[], some e, fz, pu && px⟩)
        refine wp_value (runs hrun') (hnext _ w _ _ _ F hnew ?_ fun i => ⟨fun h => by rcases h with h | h; exact .inl h; exact .inr ⟨by omega, by omega⟩, fun h => by rcases h with h | h; exact .inl h; exact .inr (by omega)⟩)
        have := Rep.sl (w := w) (p := setAt p nx none) (c := setAt c nx 0) (F := F) (addD D nx) nx 0 (.inr rfl) (by rw [setAt_same]; omega)
        rw [setAt_same, setAt_same] at this
        exact this
      · exact grown (cs := []) (olds := []) (news := news) (base := none) (n := 0) (kc := 0) (fz := fz) (pu := pu) (d := [(nx, some ⟨[] ++ ds, some e, fz, pu && px⟩), (r, none)]) (heap' := heap) hrel hnd hsv (by omega) hroom
          (run_firstCells_none w.drew i.size 0 0 0) rfl (by simp) hdl hsr hnl (fun j h => by simp at h) hdo (hdrop _) hnext
    | some g =>
      obtain ⟨us, tt, fr, k1, k2, k3, k4, k5⟩ := hB.at hp
      obtain ⟨rfl, k5b, k5c⟩ := k5 e rfl
      simp only at k3
      rw [hp] at hsv
      have hnle : n * sizeT P tt ≤ us.size := by omega
      have hol : (us.toList.take (n * sizeT P tt)).length = cs.length := by
        rw [List.length_take, Nat.min_eq_left (by simpa using hnle)]; exact hcl.symm
      have hoat : ∀ j, j < cs.length → (us.toList.take (n * sizeT P tt)).getD j undef = us.getD j undef := by
        intro j hj
        simp only [List.getD]
        rw [List.getElem?_take_of_lt (by omega)]
        simp
      rcases Nat.lt_or_ge (c r) (n + mm) with hg | hroomy
      · have hold := olds_run (P := P) (size := i.size) (n := n) (k := c r) k1 (by rw [his]; exact hnle)
        rw [his] at hold
        exact grown (cs := cs) (olds := us.toList.take (n * sizeT P tt)) (news := news) (base := some ⟨g, 0, none⟩) (n := n) (kc := c r) (fz := fz) (pu := pu) (d := [(nx, some ⟨cs ++ ds, some tt, fz, pu && px⟩), (r, none)]) (heap' := heap) hrel hnd hsv hg hroom
          (by rw [his]; exact hold) hol hcl hdl hsr hnl (fun j hj => by rw [hoat j hj]; exact k4 j hj) hdo (hdrop _) hnext
      · have hspace : n * sizeT P tt + news.length ≤ us.size := by
          rw [hnl, hdl, ← Nat.add_mul, k5b]; exact Nat.mul_le_mul_right _ hroomy
        have hrun := run_append_room_src (P := P) w t tx o.type tt i hu hi g 0 n (c r) (a.eval x) mm news (by rw [his]; exact hsr) hroomy
          (fun j hj => by rw [Nat.zero_add, his, cell_at k1 (by omega)]; rfl) (fun j hj => by rw [Nat.zero_add, his]; exact frozen_at k1 k2 (by omega))
        rw [Nat.zero_add, his, ← hcl] at hrun
        have hrun' : (Builtin.append_ #[t, tx] o.type #[a.eval s, a.eval x]).run P w = .ok (.slice (some ⟨g, 0, none⟩) (n + mm) (c r)) (w.setCells g cs.length news) := by rw [hsv]; exact hrun
        have hne : ∀ i, D i → i ≠ nx := fun i hi e => hnd (e ▸ hi)
        have hFj : ∀ j, F g j → j < cs.length := fun j hj => (hrel.fz r _ g j hlook hp hj).2
        have ext2 : Ext w D p c F (w.setCells g cs.length news) (addD D nx) (setAt p nx (some g)) (setAt c nx (c r)) F :=
          ⟨fun i hi => ⟨.inl hi, setAt_ne p _ (hne i hi), setAt_ne c _ (hne i hi)⟩, fun _ _ h => h, fun g' j hj => by
            by_cases e1 : g' = g
            · subst e1; exact World.cell?_setCells_out g' news cs.length w ⟨g', j, none⟩ fun _ _ => .inl (hFj j hj)
            · exact World.cell?_of_block (w := w) (a := ⟨g', j, none⟩) (heap_setCells_ne e1 _ _ w)⟩
        have hturn := hrel.turn (r' := nx) (b' := ⟨cs ++ ds, some tt, fz, pu && px⟩) hlook hp news cs.length (.inr hnd) (c r) hFj (fun h => h) (by simp) (by
          unfold BlkOk; rw [setAt_same]
          refine ⟨setV us cs.length news, tt, fr, heap_setCells _ us _ w k1, by rw [setV_size]; exact k2, by rw [setV_size, List.length_append]; omega, fun j hj => ?_, fun e' he => by injection he with he; subst he; rw [setV_size, setAt_same]; exact ⟨rfl, k5b, k5c⟩⟩
          have hj' : j < cs.length + ds.length := by simpa using hj
          have key : Rep w p c F (if pu && px then noD else D) (cs ++ ds)[j] ((setV us cs.length news).getD j undef) := by
            by_cases h1 : j < cs.length
            · have e1 : (cs ++ ds)[j] = cs[j] := List.getElem_append_left h1
              have e2 : (setV us cs.length news).getD j undef = us.getD j undef := by rw [setV_getD _ _ _ _ (by omega), if_neg (by omega)]
              rw [e1, e2]; exact pu_and (k4 j h1)
            · have e1 : (cs ++ ds)[j] = ds[j - cs.length] := List.getElem_append_right (by omega)
              have e2 : (setV us cs.length news).getD j undef = news.getD (j - cs.length) undef := by rw [setV_getD _ _ _ _ (by omega), if_pos (by omega)]
              rw [e1, e2]; exact pu_and' (hdo (j - cs.length) (by omega))
          cases hpu : (pu && px) with
          | true => rw [hpu] at key; exact key.mono ext2.no
          | false => rw [hpu] at key; exact key.mono ext2) (fun e => absurd e.symm hrn)
        rw [if_neg (Ne.symm hrn)] at hturn
        refine wp_value (runs hrun') (hnext _ _ _ _ _ F hturn ?_ fun i => ⟨fun h => by rcases h with h | h; exact .inl h; exact .inr ⟨by omega, by omega⟩, fun h => by rcases h with h | h; exact .inl h; exact .inr (by omega)⟩)
        have := Rep.sl (w := w.setCells g cs.length news) (p := setAt p nx (some g)) (c := setAt c nx (c r)) (F := F) (addD D nx) nx (n + mm) (.inr rfl) (by rw [setAt_same]; exact hroomy)
        rw [setAt_same, setAt_same] at this
        exact this
  · rename_i hs
    obtain ⟨⟨hroom, hpre⟩, hk⟩ := hk
    obtain ⟨hdl, hsrc⟩ := hsrc hpre
    refine ⟨_, _, _, ?_, hk⟩
    intro w0 F0 m D p c F slots heap a w next Q hrel hev hh hfresh hnext
    have hnd := hfresh nx (Nat.le_refl _) (by omega)
    obtain ⟨news, hsr, hnl, hdo⟩ := hsrc w p c F D a hev fun r b hb => (hrel.live r b (hh r b hb)).2
    have hsv := (hs ▸ hev s : Rep w p c F D _ _).ex_inv
    rcases Nat.eq_zero_or_pos mm with hm | hm
    · subst hm
      have hds : ds = [] := List.eq_nil_of_length_eq_zero (by rw [hdl, Nat.zero_mul])
      subst hds
      obtain rfl : news = [] := List.eq_nil_of_length_eq_zero (by rw [hnl]; rfl)
      have hrun := run_append_nothing (P := P) w t tx o.type e i hu hi none 0 0 (Nat.le_refl _) (a.eval x) (by rw [his]; exact hsr)
      have hrun' : (Builtin.append_ #[t, tx] o.type #[a.eval s, a.eval x]).run P w = .ok (.slice none 0 0) w := by rw [hsv]; exact hrun
      have hnew := hrel.newNil hnd e false px
      refine wp_value (runs hrun') (hnext _ w _ _ _ F hnew ?_ fun i => ⟨fun h => by rcases h with h | h; exact .inl h; exact .inr ⟨by omega, by omega⟩, fun h => by rcases h with h | h; exact .inl h; exact .inr (by omega)⟩)
      have := Rep.sl (w := w) (p := setAt p nx none) (c := setAt c nx 0) (F := F) (addD D nx) nx 0 (.inr rfl) (by rw [setAt_same]; omega)
      rw [setAt_same, setAt_same] at this
      exact this
    · refine grown (cs := []) (olds := []) (news := news) (base := none) (n := 0) (kc := 0) (fz := false) (pu := true) (d := [(nx, some ⟨ds, some e, false, px⟩)]) (heap' := heap) hrel hnd hsv (by omega) (by rw [Nat.zero_add]; exact hroom)
          (run_firstCells_none w.drew i.size 0 0 0) rfl (by simp) hdl hsr hnl (fun j h => by simp at h) hdo (fun r b h => h) ?_
      rw [Nat.zero_add]; exact hnext
end
end Go.Proofs.Ytfonmnodjmeigaa.Av
