/- The abstract machine's operations are true of the model: literals, copy; and all of them at once. No program's law is stated here. No conditions. -/
import Derived.Test.YtfonmnodjmeigaaAv10
import Derived.Laws.Tables
import Derived.Great.BuildSlice
namespace Go.Proofs.Ytfonmnodjmeigaa.Av
open Go Go.RowKit
set_option linter.unusedVariables false
set_option linter.unusedSimpArgs false

/-- cells that are laid into others, as the model does it -/
theorem fold_set (off : Nat) : ∀ (cs : List Value) (n : Nat) (us : Array Value), (cs.zipIdx n).foldl (fun (us : Array Value) (x : Value × Nat) => us.setIfInBounds (off + x.2) x.1) us = setV us (off + n) cs
  | [], n, us => rfl
  | v :: cs, n, us => by
    rw [List.zipIdx_cons, List.foldl_cons, fold_set off cs (n + 1)]
    rfl
section
variable {w : World} {D : Nat → Prop} {p : Nat → Option Nat} {c : Nat → Nat} {F : Nat → Nat → Prop} {P : Program} {sl : Sl} {a : Act}
theorem fill_struct (fs : Array Field) (places : Array (Nat × Nat)) (hpl : ∀ (i : Nat) (f : Field), fs[i]? = some f → places[i]? = some (f.offset, sizeT P f.type)) (hev : ∀ x, Rep w p c F D (ev sl x) (a.eval x)) :
    ∀ (parts : List (Nat × Operand)) (cs cs' : List AV) (us : Array Value), fillL P fs cs (evParts sl parts) = some cs' → us.size = cs.length → (∀ j (h : j < cs.length), Rep w p c F D cs[j] (us.getD j undef)) →
      ∃ us', Instr.fill (places[·]?) us (parts.map fun x => (x.1, a.eval x.2)) = some us' ∧ us'.size = cs'.length ∧ ∀ j (h : j < cs'.length), Rep w p c F D cs'[j] (us'.getD j undef)
  | [], cs, cs', us, hf, hs, hr => by
    simp only [evParts, fillL] at hf; injection hf with hf; subst hf
    exact ⟨us, rfl, hs, hr⟩
  | (i, x) :: parts, cs, cs', us, hf, hs, hr => by
    simp only [evParts, fillL] at hf
    split at hf
    case h_2 => cases hf
    rename_i f hfi
    split at hf
    case h_1 => cases hf
    rename_i hu
    split at hf
    case h_2 => cases hf
    rename_i h1 h2
    have e1 : (ev sl x).cells.length = sizeT P f.type := Nat.eq_of_beq_eq_true h1
    have e2 : f.offset + (ev sl x).cells.length ≤ cs.length := Nat.le_of_ble_eq_true h2
    have hne : ev sl x ≠ .unk := by intro e; rw [e] at hu; cases hu
    obtain ⟨c1, c2⟩ := (hev x).cells hne
    have hlen : (a.eval x).cells.toList.length = (ev sl x).cells.length := by simpa using c1
    have e0 : ∀ j, (a.eval x).cells.toList.getD j undef = (a.eval x).cells.getD j undef := fun j => by simp [List.getD]
    obtain ⟨us', k1, k2, k3⟩ := fill_struct fs places hpl hev parts (setL cs f.offset (ev sl x).cells) cs' (setV us f.offset (a.eval x).cells.toList) hf (by rw [setV_size, setL_length]; exact hs)
      (setRep _ _ cs us f.offset hlen (Nat.le_of_eq hs.symm) e2 (fun j hj => by rw [e0]; exact c2 j hj) hr)
    refine ⟨us', ?_, k2, k3⟩
    have hfold : ((a.eval x).cells.zipIdx.foldl (fun (cs : Array Value) (x : Value × Nat) => match x with | (c, j) => cs.setIfInBounds (f.offset + j) c) us) = setV us f.offset (a.eval x).cells.toList := by
      have := fold_set f.offset (a.eval x).cells.toList 0 us
      rw [Nat.add_zero] at this
      rw [← this, ← Array.foldl_toList, Array.toList_zipIdx]
    simp only [List.map_cons, Instr.fill, hpl i f hfi]
    rw [if_neg (by
      simp only [bne_iff_ne, ne_eq, Bool.or_eq_true, decide_eq_true_eq, not_or, Nat.not_lt, Classical.not_not]
      refine ⟨by rw [c1, e1], by rw [c1, hs]; omega⟩)]
    rw [hfold]; exact k1
end
section
variable {P : Program} {o : Oper} {sl : Sl} {h : Hp} {nx : Nat} {k : Kt}
theorem ok_build {t : TypeId} {ps : Array (Nat × Operand)} (ho : o.op = .build t ps) (hk : opBuild P sl t ps.toList k) : Is P o sl h nx k := by
  unfold opBuild at hk
  split at hk
  case h_2 => exact hk.elim
  rename_i fs z hu hz
  split at hk
  case h_2 => exact hk.elim
  rename_i cs hall hf
  rw [forceCs_eq, mkAggK_eq] at hk
  refine ⟨_, _, _, okQuiet fun w p c F D a hev => ?_, hk⟩
  have hi : ∃ i, P.info? t = some i ∧ i.zero = some z := by
    unfold zeroT at hz
    cases hi : P.info? t with
    | none => rw [hi] at hz; cases hz
    | some i => rw [hi] at hz; exact ⟨i, rfl, hz⟩
  obtain ⟨i, hi, hiz⟩ := hi
  have hpl : ∀ (l : List Field), l.all (fun f => Nat.blt 0 (sizeT P f.type)) = true → l.mapM (fun f => (P.info? f.type).map fun i => (f.offset, i.size)) = some (l.map fun f => (f.offset, sizeT P f.type)) := by
    intro l
    induction l with
    | nil => intro _; rfl
    | cons f l ih =>
      intro hl
      simp only [List.all_cons, Bool.and_eq_true] at hl
      obtain ⟨j, hj, hjs, _⟩ := info_of hl.1
      rw [List.mapM_cons, hj, ih hl.2]
      simp [hjs]
  obtain ⟨c1, c2⟩ := (Rep.ex (w := w) (p := p) (c := c) (F := F) D z).cells (by simp)
  obtain ⟨us', k1, k2, k3⟩ := fill_struct fs (fs.toList.map fun f => (f.offset, sizeT P f.type)).toArray (fun i f hf => by
    have : fs.toList[i]? = some f := by simpa using hf
    simp [this]) hev ps.toList _ cs z.cells hf c1 c2
  have hb : P.built t (ps.map fun x => (x.1, a.eval x.2)).toList = some us' := by
    unfold Program.built
    rw [hi, hu]
    simp only
    rw [hiz, hpl fs.toList hall]
    simpa using k1
  have := run_build (P := P) w t (ps.map fun x => (x.1, a.eval x.2)) us' hb
  exact ⟨_, by simp only [execOp, ho, Sem.run_bind, this, Result.andThen_ok, Sem.run_pure], .mk k2 k3⟩
end

section
variable {w : World} {E : Nat → Prop} {p : Nat → Option Nat} {c : Nat → Nat} {F : Nat → Nat → Prop} {P : Program} {sl : Sl} {a : Act}
theorem fill_row (size : Nat) : ∀ (parts : List (Nat × Operand)) (i : Nat) (pre : List AV) (us : Array Value), partsOk size i (evParts sl parts) = true → us.size = (i + parts.length) * size → pre.length = i * size →
    (∀ x ∈ parts, ev sl x.2 ≠ .unk → (a.eval x.2).cells.size = (ev sl x.2).cells.length ∧ ∀ j (h : j < (ev sl x.2).cells.length), Rep w p c F E (ev sl x.2).cells[j] ((a.eval x.2).cells.getD j undef)) →
    (∀ j (h : j < pre.length), Rep w p c F E pre[j] (us.getD j undef)) →
    ∃ us', Instr.fill (fun i => some (i * size, size)) us (parts.map fun x => (x.1, a.eval x.2)) = some us' ∧ us'.size = us.size ∧ (pre ++ partCells (evParts sl parts)).length = us.size ∧
      ∀ j (h : j < (pre ++ partCells (evParts sl parts)).length), Rep w p c F E (pre ++ partCells (evParts sl parts))[j] (us'.getD j undef)
  | [], i, pre, us, hp, hs, hl, hc, hr => by
    refine ⟨us, rfl, rfl, by simp [evParts, partCells, hl]; simp at hs; exact hs.symm, fun j hj => ?_⟩
    simp only [evParts, partCells, List.append_nil] at hj ⊢
    exact hr j hj
  | (q, x) :: parts, i, pre, us, hp, hs, hl, hc, hr => by
    simp only [evParts, partsOk] at hp
    split at hp
    case h_1 => cases hp
    rename_i hu
    split at hp
    case h_2 => cases hp
    rename_i h1 h2
    obtain rfl : i = q := Nat.eq_of_beq_eq_true h1
    have e1 : (ev sl x).cells.length = size := Nat.eq_of_beq_eq_true h2
    have hne : ev sl x ≠ .unk := by intro e; rw [e] at hu; cases hu
    obtain ⟨c1, c2⟩ := hc (i, x) (by simp) hne
    simp only at c1 c2
    have hlen : (a.eval x).cells.toList.length = (ev sl x).cells.length := by simpa using c1
    have e0 : ∀ j, (a.eval x).cells.toList.getD j undef = (a.eval x).cells.getD j undef := fun j => by simp [List.getD]
    have hus : i * size + size ≤ us.size := by
      rw [hs, List.length_cons, ← Nat.succ_mul]; exact Nat.mul_le_mul_right _ (by omega)
    have hr1 : ∀ j (h : j < (pre ++ (ev sl x).cells).length), Rep w p c F E (pre ++ (ev sl x).cells)[j] ((setV us (i * size) (a.eval x).cells.toList).getD j undef) := by
      intro j hj
      rw [List.length_append, hl, e1] at hj
      rw [setV_getD _ _ _ _ (by omega)]
      by_cases h : j < i * size
      · rw [if_neg (by omega), List.getElem_append_left (by omega)]
        exact hr j (by omega)
      · rw [if_pos (by omega), List.getElem_append_right (by omega), e0]
        have e5 : (a.eval x).cells.getD (j - i * size) undef = (a.eval x).cells.getD (j - pre.length) undef := by rw [hl]
        rw [e5]
        exact c2 (j - pre.length) (by omega)
    obtain ⟨us', k1, k2, k3, k4⟩ := fill_row size parts (i + 1) (pre ++ (ev sl x).cells) (setV us (i * size) (a.eval x).cells.toList) hp (by rw [setV_size, hs, List.length_cons]; congr 1; omega) (by rw [List.length_append, hl, e1, Nat.succ_mul])
      (fun y hy => hc y (List.mem_cons_of_mem _ hy)) hr1
    have hfold : ((a.eval x).cells.zipIdx.foldl (fun (cs : Array Value) (x : Value × Nat) => match x with | (c, j) => cs.setIfInBounds (i * size + j) c) us) = setV us (i * size) (a.eval x).cells.toList := by
      have := fold_set (i * size) (a.eval x).cells.toList 0 us
      rw [Nat.add_zero] at this
      rw [← this, ← Array.foldl_toList, Array.toList_zipIdx]
    rw [setV_size] at k2 k3
    refine ⟨us', ?_, k2, ?_, ?_⟩
    · simp only [List.map_cons, Instr.fill]
      rw [if_neg (by
        simp only [bne_iff_ne, ne_eq, Bool.or_eq_true, decide_eq_true_eq, not_or, Nat.not_lt, Classical.not_not]
        refine ⟨by rw [c1, e1], by rw [c1]; omega⟩)]
      rw [hfold]; exact k1
    · have hcat : pre ++ partCells (evParts sl ((i, x) :: parts)) = pre ++ (ev sl x).cells ++ partCells (evParts sl parts) := by simp [evParts, partCells]
      rw [hcat]; exact k3
    · have hcat : pre ++ partCells (evParts sl ((i, x) :: parts)) = pre ++ (ev sl x).cells ++ partCells (evParts sl parts) := by simp [evParts, partCells]
      rw [hcat]; exact k4
end
section
variable {P : Program} {o : Oper} {sl : Sl} {h : Hp} {nx : Nat} {k : Kt}
theorem partsPure_ok : ∀ {parts : List (Nat × Operand)}, partsPure (evParts sl parts) = true → ∀ x ∈ parts, pureV (ev sl x.2) = true
  | [], _, x, hx => by cases hx
  | (i, y) :: parts, hp, x, hx => by
    simp only [evParts, partsPure, Bool.and_eq_true] at hp
    rcases List.mem_cons.1 hx with e | e
    · subst e; exact hp.1
    · exact partsPure_ok hp.2 x e
theorem ok_buildSlice {t : TypeId} {n : Nat} {ps : Array (Nat × Operand)} (ho : o.op = .buildSlice t n ps) (hk : opBuildSlice P sl nx t n ps.toList k) : Is P o sl h nx k := by
  unfold opBuildSlice at hk
  split at hk
  case h_2 => exact hk.elim
  rename_i e hu
  split at hk
  case h_2 => exact hk.elim
  rename_i z hok hlen hn hsz hpos hz
  rw [forceCs_eq, forceB_eq] at hk
  obtain ⟨fz, hk⟩ := hk
  obtain ⟨i, hi, his, hib⟩ := info_of hpos
  have hiz : i.zero = some z := by unfold zeroT at hz; rw [hi] at hz; exact hz
  have hlen' : ps.toList.length = n := Nat.eq_of_beq_eq_true hlen
  have hn' : n ≤ 1000 := Nat.le_of_ble_eq_true hn
  have hsz' : sizeT P e ≤ 1000 := Nat.le_of_ble_eq_true hsz
  have hspos : 0 < sizeT P e := Nat.pos_of_ne_zero (size_run (P := P) (w := default) hpos).2
  have hsmall : n * i.size ≤ 1000 * 1000 := by rw [his]; exact Nat.mul_le_mul hn' hsz'
  refine ⟨_, _, _, okNew (.inr ⟨_, rfl⟩) fun w p c F D a hev hl => ?_, hk⟩
  have hE : ∀ x ∈ ps.toList, ev sl x.2 ≠ .unk → (a.eval x.2).cells.size = (ev sl x.2).cells.length ∧ ∀ j (h : j < (ev sl x.2).cells.length), Rep w p c F (if partsPure (evParts sl ps.toList) then noD else D) (ev sl x.2).cells[j] ((a.eval x.2).cells.getD j undef) := by
    intro x hx hu
    obtain ⟨c1, c2⟩ := (hev x.2).cellsP hu
    refine ⟨c1, fun j hj => ?_⟩
    have h2 := c2 j hj
    cases hp : partsPure (evParts sl ps.toList) with
    | true => rw [partsPure_ok hp x hx] at h2; exact h2
    | false => exact h2.pu
  obtain ⟨us', k1, k2, k3, k4⟩ := fill_row (sizeT P e) ps.toList 0 [] ((Array.range (n * i.size)).map (z.cells[· % z.cells.size]!)) hok (by simp only [Array.size_map, Array.size_range, Nat.zero_add]; rw [hlen', his]) (by simp) hE (fun j hj => by simp at hj)
  simp only [List.nil_append] at k3 k4
  have hus : us'.size = n * sizeT P e := by rw [k2]; simp [his]
  have hrun : (Instr.buildSlice t n (ps.map fun x => (x.1, a.eval x.2))).run P w = .ok (.slice (some ⟨w.heap.size, 0, none⟩) n n) (w.alloc (.cells us' e)) := by
    rcases Nat.eq_zero_or_pos n with h0 | h0
    · subst h0
      have hps : ps = #[] := by
        apply Array.ext'
        simpa using List.eq_nil_of_length_eq_zero hlen'
      subst hps
      have hu0 : us' = #[] := Array.eq_empty_of_size_eq_zero (by rw [hus, Nat.zero_mul])
      subst hu0
      have e0 : ∀ (f : Nat → Value), Array.map f (Array.range 0) = #[] := fun f => Array.eq_empty_of_size_eq_zero (by simp)
      simp [Instr.buildSlice, run_underlying hu, sizeOf, typeInfo, hi, Instr.fill, newRow, e0]
    · refine run_buildSlice w t e n _ us' i z hu hi hiz (by omega) (by rw [his]; exact Nat.pos_iff_ne_zero.1 (Nat.mul_pos h0 hspos)) ?_
      rw [his] at k1 ⊢
      simpa using k1
  exact ⟨w.alloc (.cells us' e), us', e, (0, 0), n, by simp only [execOp, ho, Sem.run_bind, hrun, Result.andThen_ok, Sem.run_pure], below_alloc w _, heap_alloc_new w _, by simp, by rw [k3, k2]; exact Nat.le_refl _, k4,
    (fun e' he => by injection he with he; subst he; exact ⟨rfl, hus, by omega⟩), (fun n' hn' => by injection hn' with _ hn'; omega)⟩
end
end Go.Proofs.Ytfonmnodjmeigaa.Av
