/- The abstract machine's operations are true of the model: indexes, slices, pure computations. No program's law is stated here. No conditions. -/
import Derived.Test.YtfonmnodjmeigaaAv3
import Derived.IntWalk
import Derived.Laws.IdiomStrings
import Derived.Laws.BytesArg
import Derived.Laws.StructEq
import Derived.ChangeKeysEq
namespace Go.Proofs.Ytfonmnodjmeigaa.Av
open Go Go.RowKit
set_option linter.unusedVariables false
set_option linter.unusedSimpArgs false

section
variable {P : Program} {w : World} {D : Nat → Prop} {p : Nat → Option Nat} {c : Nat → Nat} {F : Nat → Nat → Prop}
theorem size_any {t : TypeId} {d : TypeDesc} (h : P.underlying t = some d) (w : World) : (sizeOf t).run P w = .ok (sizeT P t) w := by
  have hi : ∃ i, P.info? t = some i := by
    unfold Program.underlying at h
    cases hi : P.info? t with
    | none => rw [hi] at h; cases h
    | some i => exact ⟨i, rfl⟩
  obtain ⟨i, hi⟩ := hi
  simp [sizeOf, typeInfo, hi, sizeT]
theorem Win.take {g o : Nat} {cs : List AV} {u : Nat → Value} (h : Win w p c F g o cs u) (i n : Nat) : Win w p c F g (o + i) (takeL cs i n) (fun j => u (i + j)) := by
  have hl : ∀ j, j < (takeL cs i n).length → i + j < cs.length := by
    intro j hj; unfold takeL at hj; rw [List.length_take, List.length_drop] at hj; omega
  refine ⟨fun j hj => ?_, fun j hj => ?_⟩
  · have := h.1 (i + j) (hl j hj)
    rw [Nat.add_assoc]; exact this
  · have := h.2 (i + j) (hl j hj)
    have e : (takeL cs i n)[j] = cs[i + j]'(hl j hj) := by
      have h1 := takeL_at (cs := cs) (off := i) (k := n) (List.getElem?_eq_getElem hj)
      rw [List.getElem?_eq_getElem (hl j hj)] at h1
      injection h1 with h1; exact h1.symm
    rw [e]; exact this
end

section
variable {P : Program} {o : Oper} {sl : Sl} {h : Hp} {nx : Nat} {k : Kt}
theorem ok_indexAddr {t : TypeId} {x y : Operand} (ho : o.op = .indexAddr t x y) (hk : opIndexAddr P sl h t x y k) : Is P o sl h nx k := by
  unfold opIndexAddr at hk
  split at hk
  · rename_i e hu
    split at hk
    · rename_i hz
      have hso := fun w => (size_run (P := P) (w := w) hz).1
      split at hk
      · rename_i r n kk i hx hy
        split at hk
        · rename_i b hb
          obtain ⟨hi, hk⟩ := hk
          refine ⟨_, _, _, okRead fun w p c F D a hev hl => ?_, hk⟩
          obtain ⟨hd, hn, he⟩ := (hx ▸ hev x : Rep w p c F D _ _).sl_inv
          have hy' := (hy ▸ hev y : Rep w p c F D _ _).ex_inv
          cases hp : p r with
          | none =>
            have := (hl r b hb).2
            unfold BlkOk at this
            rw [hp] at this
            have := this.2.1
            omega
          | some g =>
            refine ⟨.pointer (some ⟨g, mulS i.toNat (sizeT P e), none⟩), ?_, .ptr _ _ _ _ hd hp⟩
            simp [execOp, ho, Instr.indexAt, asIntOf, run_underlying hu, he, hp, hy', hi, hso, mulS_eq, Addr.add_lit]
        · exact hk.elim
      · rename_i n cs kk i hx hy
        obtain ⟨hi, hk⟩ := hk
        refine ⟨_, _, _, okQuiet fun w p c F D a hev => ?_, hk⟩
        have hy' := (hy ▸ hev y : Rep w p c F D _ _).ex_inv
        rcases (hx ▸ hev x : Rep w p c F D _ _).vs_inv with ⟨h0, _, _⟩ | ⟨g, q, kc, u, hn, he, hw⟩
        · omega
        · refine ⟨.pointer (some ⟨g, q + mulS i.toNat (sizeT P e), none⟩), ?_, .vq _ _ _ _ _ u hw.1 hw.2⟩
          simp [execOp, ho, Instr.indexAt, asIntOf, run_underlying hu, he, hy', hi, hso, mulS_eq, Addr.add_lit]
      · exact hk.elim
    · exact hk.elim
  · rename_i n e hu
    split at hk
    · rename_i hz
      have hso := fun w => (size_run (P := P) (w := w) hz).1
      split at hk
      · rename_i r off kk i hx hy
        obtain ⟨hi, hk⟩ := hk
        refine ⟨_, _, _, okQuiet fun w p c F D a hev => ?_, hk⟩
        obtain ⟨g, hd, hp, he⟩ := (hx ▸ hev x : Rep w p c F D _ _).ptr_inv
        have hy' := (hy ▸ hev y : Rep w p c F D _ _).ex_inv
        refine ⟨_, ?_, .ptr _ _ _ _ hd hp⟩
        simp [execOp, ho, Instr.indexAt, asIntOf, run_underlying hu, he, hy', hi, hso, mulS_eq, Addr.add_lit, Instr.sureAddr]
      · exact hk.elim
    · exact hk.elim
  · exact hk.elim

theorem semPure_run {α : Type} {s : Sem α} {v : α} (h : semPure P s = some v) (w : World) : s.run P w = .ok v w := by
  induction s with
  | pure a => simp [semPure] at h; subst h; rfl
  | program f ih => simp only [semPure] at h; exact ih _ h
  | mark m f ih => simp only [semPure] at h; exact ih h
  | _ => simp [semPure] at h
theorem exOnly_spec {sl : Sl} : ∀ {l : List Operand}, exOnly sl l = true → ∀ x ∈ l, ev sl x = .ex (rho sl x)
  | [], _, x, hx => by cases hx
  | o :: l, h, x, hx => by
    unfold exOnly at h
    cases ho : ev sl o with
    | ex v =>
      rw [ho] at h
      rcases List.mem_cons.1 hx with e | hx
      · subst e; simp [rho, ho]
      · exact exOnly_spec h x hx
    | _ => rw [ho] at h; simp at h
theorem ok_fall (hs : ∀ cs b, o.op ≠ .select cs b) (hk : opFall P sl o k) : Is P o sl h nx k := by
  unfold opFall at hk
  split at hk
  · rename_i hx
    split at hk
    · rename_i v hv
      refine ⟨_, _, _, okQuiet fun w p c F D a hev => ?_, hk⟩
      have e : execOp a.eval o = execOp (rho sl) o := execOp_congr o hs fun x hx' => by
        have := hev x
        rw [exOnly_spec hx x (by simpa using hx')] at this
        exact this.ex_inv
      exact ⟨v, by rw [e]; exact semPure_run hv w, .ex _ _⟩
    · exact hk.elim
  · exact hk.elim
theorem wrap_in {n : Int} (h : inR n) : IntKind.i64.wrap n = n := by
  unfold inR at h
  exact IntWalk.i64_in n h
theorem wrap_u (n : Int) (h0 : 0 ≤ n) (h1 : n < 18446744073709551616) : IntKind.u64.wrap n = n := by
  have : IntKind.u64.wrap n = n % 18446744073709551616 := by simp [IntKind.wrap, IntKind.bits, IntKind.signed]
  rw [this]; omega
theorem ok_bin_ex {op : BinOp} {t t' : TypeId} {x y : Operand} {u v r : Value} (ho : o.op = .binOp op t x y t') (hx : ev sl x = .ex u) (hy : ev sl y = .ex v)
    (hg : op ≠ .eql ∧ op ≠ .neq) (hr : ∀ w, (binOp op t u v).run P w = .ok r w) (hk : k (.ex r) [] 0) : Is P o sl h nx k := by
  refine ⟨_, _, _, okQuiet fun w p c F D a hev => ⟨r, ?_, .ex _ _⟩, hk⟩
  have h1 := (hx ▸ hev x : Rep w p c F D _ _).ex_inv
  have h2 := (hy ▸ hev y : Rep w p c F D _ _).ex_inv
  have hq : (eqGuard op t x y u v).run P w = .ok () w := by
    cases op <;> simp_all [eqGuard]
  simp [execOp, ho, h1, h2, hq, hr]
theorem bin_fall {op : BinOp} {t t' : TypeId} {x y : Operand} (ho : o.op = .binOp op t x y t') (hk : opFall P sl o k) : Is P o sl h nx k :=
  ok_fall (by intro cs b hh; rw [ho] at hh; cases hh) hk
theorem eq_nil1 {t e : TypeId} (hu : P.underlying t = some (.pointer e)) (d : Nat) (ad : Addr) (w : World) : (Op.equalIn (d + 1) t (.pointer none) (.pointer (some ad))).run P w = .ok false w := by
  simp [Op.equalIn, run_underlying hu]
theorem eq_nil2 {t e : TypeId} (hu : P.underlying t = some (.pointer e)) (d : Nat) (ad : Addr) (w : World) : (Op.equalIn (d + 1) t (.pointer (some ad)) (.pointer none)).run P w = .ok false w := by
  simp [Op.equalIn, run_underlying hu]
theorem bin_nil {op : BinOp} {t t' e : TypeId} {x y : Operand} {b : Bool} (ho : o.op = .binOp op t x y t') (hu : P.underlying t = some (.pointer e)) (hb : op = .eql ∧ b = false ∨ op = .neq ∧ b = true)
    (hxy : isNilP (ev sl x) = true ∧ isSomeP (ev sl y) = true ∨ isSomeP (ev sl x) = true ∧ isNilP (ev sl y) = true) (hk : k (.ex (.bool b)) [] 0) : Is P o sl h nx k := by
  refine ⟨_, _, _, okQuiet fun w p c F D a hev => ⟨.bool b, ?_, .ex _ _⟩, hk⟩
  have nilp : ∀ x, isNilP (ev sl x) = true → a.eval x = .pointer none := by
    intro x hx
    have := hev x
    unfold isNilP at hx
    split at hx
    · rename_i e; rw [e] at this; exact this.ex_inv
    · cases hx
  have somep : ∀ x, isSomeP (ev sl x) = true → ∃ ad, a.eval x = .pointer (some ad) := by
    intro x hx
    have := hev x
    unfold isSomeP at hx
    split at hx
    · rename_i e; rw [e] at this; obtain ⟨g, _, _, h⟩ := this.ptr_inv; exact ⟨_, h⟩
    · rename_i e; rw [e] at this; obtain ⟨g, q, u, h, _⟩ := this.vp_inv; exact ⟨_, h⟩
    · rename_i e; rw [e] at this; obtain ⟨g, q, u, h, _⟩ := this.vq_inv; exact ⟨_, h⟩
    · cases hx
  rcases hxy with ⟨h1, h2⟩ | ⟨h1, h2⟩
  · have e1 := nilp x h1
    obtain ⟨ad, e2⟩ := somep y h2
    have e3 : (Op.equal t (.pointer none) (.pointer (some ad))).run P w = .ok false w := eq_nil1 hu 9999 ad w
    rcases hb with ⟨rfl, rfl⟩ | ⟨rfl, rfl⟩ <;> simp [execOp, ho, e1, e2, eqGuard, binOp, e3]
  · obtain ⟨ad, e1⟩ := somep x h1
    have e2 := nilp y h2
    have e3 : (Op.equal t (.pointer (some ad)) (.pointer none)).run P w = .ok false w := eq_nil2 hu 9999 ad w
    rcases hb with ⟨rfl, rfl⟩ | ⟨rfl, rfl⟩ <;> simp [execOp, ho, e1, e2, eqGuard, binOp, e3]
theorem eqVal_run {t : TypeId} {x y : Value} {r : Bool} (h : eqVal P t x y = some r) (d : Nat) (w : World) : (Op.equalIn (d + 1) t x y).run P w = .ok r w ∧ P.plainKey t = true := by
  unfold eqVal at h
  split at h
  · rename_i kk hu
    split at h
    · split at h
      · rename_i hk
        cases of_decide_eq_true hk
        injection h with h; subst h
        exact ⟨run_equalIn_int w d t _ kk _ _ hu, by simp [Program.plainKey, hu]⟩
      · cases h
    · cases h
  · rename_i hu
    split at h
    · injection h with h; subst h
      exact ⟨run_equalIn_string w d t _ _ hu, by simp [Program.plainKey, hu]⟩
    · cases h
  · rename_i hu
    split at h
    · injection h with h; subst h
      exact ⟨run_equalIn_bool' w d t _ _ hu, by simp [Program.plainKey, hu]⟩
    · cases h
  · cases h
theorem eqFs_run {us vs : Array Value} (d : Nat) (w : World) : ∀ {fs : List Field} {r : Bool}, eqFs P us.toList vs.toList fs = some r → fs.all (fun f => f.name != "_") = true →
    (Op.eqFields (d + 1) us vs fs).run P w = .ok r w
  | [], r, h, _ => by
    simp only [eqFs] at h; injection h with h; subst h
    simp [Op.eqFields]
  | f :: l, r, h, hn => by
    simp only [List.all_cons, Bool.and_eq_true] at hn
    have hf : f.name ≠ "_" := by simpa using hn.1
    simp only [eqFs] at h
    split at h
    · rename_i a b ha hb
      split at h
      · rename_i p q hp hq
        injection h with h; subst h
        obtain ⟨e1, pk⟩ := eqVal_run hp d w
        have ha' : us[f.offset]? = some a := by simpa using ha
        have hb' : vs[f.offset]? = some b := by simpa using hb
        have ih := eqFs_run d w hq hn.2
        cases p <;> simp [Op.eqFields, hf, run_part_plain w pk ha', run_part_plain w pk hb', e1, ih]
      · cases h
    · cases h
theorem bin_eqS {op : BinOp} {t t' : TypeId} {x y : Operand} {fs : Array Field} {neg : Bool} (ho : o.op = .binOp op t x y t') (hu : P.underlying t = some (.struct fs)) (hb : op = .eql ∧ neg = false ∨ op = .neq ∧ neg = true)
    (hk : opEqS P t fs.toList (ev sl x) (ev sl y) neg k (opFall P sl o k)) : Is P o sl h nx k := by
  unfold opEqS at hk
  split at hk
  · rename_i us vs hx hy
    split at hk
    · rename_i r hr
      obtain ⟨hT, hk⟩ := hk
      unfold eqT at hT
      rw [hu] at hT
      simp only [Bool.and_eq_true, Bool.not_eq_true'] at hT
      have hfo : P.fieldsOf t = fs := by unfold Program.fieldsOf; rw [hu]
      refine ⟨_, _, _, okQuiet fun w p c F D a hev => ⟨_, ?_, .ex _ _⟩, hk⟩
      have h1 := (hx ▸ hev x : Rep w p c F D _ _).ex_inv
      have h2 := (hy ▸ hev y : Rep w p c F D _ _).ex_inv
      have e0 : (Op.equalIn 10000 t (.agg us) (.agg vs)).run P w = .ok r w := by
        rw [run_equalIn_struct w 9999 t us vs (by rw [hfo]; exact hu) hT.2.1, hfo]
        exact eqFs_run 9998 w hr hT.1
      have e3 := run_eqGuard_agg w op t x y us vs hT.2.2
      rcases hb with ⟨rfl, rfl⟩ | ⟨rfl, rfl⟩
      · have e1 := run_eql_struct (P := P) w t us vs
        rw [e0] at e1
        simp [execOp, ho, h1, h2, e3, e1]
      · have e1 := run_neq_struct (P := P) w t us vs
        rw [e0] at e1
        simp [execOp, ho, h1, h2, e3, e1]
    · exact bin_fall ho hk
  · exact bin_fall ho hk
theorem ok_bin {op : BinOp} {t t' : TypeId} {x y : Operand} (ho : o.op = .binOp op t x y t') (hk : opBin P sl o op t x y k) : Is P o sl h nx k := by
  unfold opBin at hk
  split at hk
  · rename_i a b hx hy
    exact ok_bin_ex ho hx hy (by simp) (fun w => by simp [binOp, Op.intArith, wrap_in hk.1]) hk.2
  · rename_i a b hx hy
    exact ok_bin_ex ho hx hy (by simp) (fun w => by simp [binOp, Op.intArith, wrap_in hk.1]) hk.2
  · rename_i a b hx hy
    exact ok_bin_ex ho hx hy (by simp) (fun w => by simp [binOp, Op.intArith, wrap_in hk.1]) hk.2
  · rename_i a b hx hy
    obtain ⟨⟨h1, h2, h3⟩, hk⟩ := hk
    refine ok_bin_ex ho hx hy (by simp) (fun w => ?_) hk
    have hb : b ≠ 0 := by omega
    unfold inR at h3
    simp [binOp, Op.intDiv, hb, IntWalk.i64_quo a b ⟨h1, h3.2, by omega⟩]
  · rename_i a b hx hy
    obtain ⟨⟨h1, h2⟩, hk⟩ := hk
    refine ok_bin_ex ho hx hy (by simp) (fun w => ?_) hk
    have hb : b ≠ 0 := by omega
    simp [binOp, Op.intDiv, hb, Int.tmod_eq_emod_of_nonneg h1]
  · rename_i a b hx hy
    obtain ⟨⟨h1, h2, h3⟩, hk⟩ := hk
    refine ok_bin_ex ho hx hy (by simp) (fun w => ?_) hk
    have hb : b ≠ 0 := by omega
    have e : a.tdiv b = a / b := Int.tdiv_eq_ediv_of_nonneg h1
    have h4 : 0 ≤ a / b := Int.ediv_nonneg h1 (by omega)
    have h5 : a / b ≤ a := Int.ediv_le_self _ h1
    simp [binOp, Op.intDiv, hb, e, wrap_u (a / b) h4 (by omega)]
  · rename_i a b hx hy
    obtain ⟨⟨h1, h2⟩, hk⟩ := hk
    refine ok_bin_ex ho hx hy (by simp) (fun w => ?_) hk
    have hb : b ≠ 0 := by omega
    simp [binOp, Op.intDiv, hb, Int.tmod_eq_emod_of_nonneg h1]
  · rename_i kk a k2 b hx hy
    obtain ⟨h1, hk⟩ := hk
    refine ok_bin_ex ho hx hy (by simp) (fun w => ?_) hk
    have hb : ¬ b < 0 := by omega
    simp [binOp, Op.shift, hb]
  · rename_i kk a k2 b hx hy
    obtain ⟨h1, hk⟩ := hk
    refine ok_bin_ex ho hx hy (by simp) (fun w => ?_) hk
    have hb : ¬ b < 0 := by omega
    simp [binOp, Op.shift, hb]
  · rename_i a b hx hy
    obtain ⟨h1, hk⟩ := hk
    refine ok_bin_ex ho hx hy (by simp) (fun w => ?_) hk
    have hm : IntKind.i64.max = 9223372036854775807 := by decide
    have hb : ¬ (9223372036854775807 < ((a.size : Int) + (b.size : Int))) := by omega
    simp [binOp, Op.stringOp, hm, hb]
  · rename_i kk a k2 b _ hx hy
    split at hk
    · rename_i he
      cases of_decide_eq_true he
      obtain ⟨z, hz, hk⟩ := hk
      exact ok_bin_ex ho hx hy (by simp) (fun w => by simp [binOp, Op.intArith, hz]) hk
    · exact hk.elim
  · rename_i kk a k2 b _ hx hy
    split at hk
    · rename_i he
      cases of_decide_eq_true he
      obtain ⟨z, hz, hk⟩ := hk
      exact ok_bin_ex ho hx hy (by simp) (fun w => by simp [binOp, Op.intArith, hz]) hk
    · exact hk.elim
  · rename_i kk a k2 b _ hx hy
    split at hk
    · rename_i he
      cases of_decide_eq_true he
      obtain ⟨z, hz, hk⟩ := hk
      exact ok_bin_ex ho hx hy (by simp) (fun w => by simp [binOp, Op.intArith, hz]) hk
    · exact hk.elim
  · split at hk
    · rename_i fs hu
      exact bin_eqS ho hu (.inl ⟨rfl, rfl⟩) hk
    · rename_i e hu
      split at hk
      · exact bin_nil ho hu (.inl ⟨rfl, rfl⟩) (.inl ⟨by assumption, by assumption⟩) hk
      · exact bin_nil ho hu (.inl ⟨rfl, rfl⟩) (.inr ⟨by assumption, by assumption⟩) hk
      · exact bin_fall ho hk
    · exact bin_fall ho hk
  · split at hk
    · rename_i fs hu
      exact bin_eqS ho hu (.inr ⟨rfl, rfl⟩) hk
    · rename_i e hu
      split at hk
      · exact bin_nil ho hu (.inr ⟨rfl, rfl⟩) (.inl ⟨by assumption, by assumption⟩) hk
      · exact bin_nil ho hu (.inr ⟨rfl, rfl⟩) (.inr ⟨by assumption, by assumption⟩) hk
      · exact bin_fall ho hk
    · exact bin_fall ho hk
  · exact bin_fall ho hk

theorem ok_field {t : TypeId} {x : Operand} {f : Nat} (ho : o.op = .field t x f) (hk : opField P sl t x f k) : Is P o sl h nx k := by
  have part_ok : ∀ {ft : TypeId} {cs : List AV} {d : Nat} {k : AV → Prop}, loadA P ft cs d k → ∃ v, k v ∧ ∀ (w : World) (D : Nat → Prop) (p : Nat → Option Nat) (c : Nat → Nat) (F : Nat → Nat → Prop) (us : Array Value),
      us.size = cs.length → (∀ j (h : j < cs.length), Rep w p c F D cs[j] (us.getD j undef)) → ∃ x, (part ft us d).run P w = .ok x w ∧ Rep w p c F D v x := by
    intro ft cs d k hk
    unfold loadA at hk
    split at hk
    · rename_i hA
      obtain ⟨hl, hk⟩ := hk
      rw [forceCs_eq, mkAggK_eq] at hk
      refine ⟨_, hk, fun w D p c F us hs hr => ?_⟩
      obtain ⟨h1, h2⟩ := kind_true (w := w) hA
      refine ⟨.agg (us.extract d (d + sizeT P ft)), by simp [part, h1, h2], .mk ?_ fun j hj => ?_⟩
      · unfold takeL; rw [List.length_take, List.length_drop, Array.size_extract]; omega
      · have hj' : d + j < cs.length := by unfold takeL at hj; rw [List.length_take, List.length_drop] at hj; omega
        have h3 := hr (d + j) hj'
        have e1 : (takeL cs d (sizeT P ft))[j] = cs[d + j] := by
          have h1 := takeL_at (cs := cs) (off := d) (k := sizeT P ft) (List.getElem?_eq_getElem hj)
          rw [List.getElem?_eq_getElem hj'] at h1
          injection h1 with h1; exact h1.symm
        have hj2 : j < sizeT P ft := by unfold takeL at hj; rw [List.length_take, List.length_drop] at hj; omega
        have e2 : (us.extract d (d + sizeT P ft)).getD j undef = us.getD (d + j) undef := by
          have hj3 : j < min (d + sizeT P ft) us.size - d := by omega
          have hj4 : d + j < us.size := by omega
          simp [Array.getElem?_extract, hj3, hj4]
        rw [e1, e2]; exact h3
    · rename_i hA
      split at hk
      · rename_i v hv
        refine ⟨_, hk, fun w D p c F us hs hr => ?_⟩
        obtain ⟨hlt, he⟩ := List.getElem?_eq_some_iff.1 hv
        have hd : d < us.size := by omega
        refine ⟨us[d], by simp [part, kind_false hA, hd], ?_⟩
        have := hr d hlt
        rw [he] at this
        simpa [hd] using this
      · exact hk.elim
    · exact hk.elim
  unfold opField fieldOff at hk
  cases hu : P.underlying t with
  | none => rw [hu] at hk; exact hk.elim
  | some d =>
    rw [hu] at hk
    cases d
    case struct fs =>
      simp only at hk
      cases hf : fs[f]? with
      | none => rw [hf] at hk; exact hk.elim
      | some fd =>
        rw [hf] at hk
        simp only at hk
        cases hz : Nat.blt 0 (sizeT P fd.type) with
        | false => rw [hz] at hk; exact hk.elim
        | true =>
        rw [hz] at hk
        simp only at hk
        split at hk
        · rename_i us hx
          obtain ⟨v, hv, hp⟩ := part_ok hk
          refine ⟨_, _, _, okQuiet fun w p c F D a hev => ?_, hv⟩
          have he := (hx ▸ hev x : Rep w p c F D _ _).ex_inv
          obtain ⟨x', h1, h2⟩ := hp w D p c F us (by simp [AV.cells]) (fun j hj => by
            have hj' : j < us.size := by simpa [AV.cells] using hj
            have : (AV.cells (.ex (.agg us)))[j] = .ex (us.getD j undef) := by simp [AV.cells, hj']
            rw [this]; exact .ex _ _)
          exact ⟨x', by simp [execOp, ho, Instr.field, run_underlying hu, hf, he, asAgg, h1], h2⟩
        · rename_i cs hx
          obtain ⟨v, hv, hp⟩ := part_ok hk
          refine ⟨_, _, _, okQuiet fun w p c F D a hev => ?_, hv⟩
          obtain ⟨us, he, hs, hr⟩ := (hx ▸ hev x : Rep w p c F D _ _).agg_inv
          obtain ⟨x', h1, h2⟩ := hp w D p c F us hs hr
          exact ⟨x', by simp [execOp, ho, Instr.field, run_underlying hu, hf, he, asAgg, h1], h2⟩
        · exact hk.elim
    all_goals exact hk.elim
theorem ok_len {t : TypeId} {x : Operand} {cl : Call} (ho : o.op = .call cl) (hc : cl.callee = .builtin .len) (ha : cl.args.toList = [x]) (ht : cl.argTypes.toList = [t]) (hk : opLen P sl t x k) : Is P o sl h nx k := by
  have ha' : cl.args = #[x] := by rw [← Array.toList_inj]; exact ha
  have ht' : cl.argTypes = #[t] := by rw [← Array.toList_inj]; exact ht
  unfold opLen at hk
  split at hk
  · rename_i e hu
    split at hk
    · rename_i r n hx
      refine ⟨_, _, _, okQuiet fun w p c F D a hev => ⟨_, ?_, .ex _ _⟩, hk⟩
      obtain ⟨_, _, he⟩ := (hx ▸ hev x : Rep w p c F D _ _).sl_inv
      simp [execOp, ho, resolve, hc, ha', ht', invoke, builtin, Builtin.len_, run_underlying hu, he, goInt]
    · rename_i n cs hx
      refine ⟨_, _, _, okQuiet fun w p c F D a hev => ⟨_, ?_, .ex _ _⟩, hk⟩
      rcases (hx ▸ hev x : Rep w p c F D _ _).vs_inv with ⟨h0, _, he⟩ | ⟨g, q, kc, u, hn, he, hw⟩
      · subst h0; simp [execOp, ho, resolve, hc, ha', ht', invoke, builtin, Builtin.len_, run_underlying hu, he, goInt]
      · simp [execOp, ho, resolve, hc, ha', ht', invoke, builtin, Builtin.len_, run_underlying hu, he, goInt]
    · rename_i n m hx
      refine ⟨_, _, _, okQuiet fun w p c F D a hev => ⟨_, ?_, .ex _ _⟩, hk⟩
      have he := (hx ▸ hev x : Rep w p c F D _ _).ex_inv
      simp [execOp, ho, resolve, hc, ha', ht', invoke, builtin, Builtin.len_, run_underlying hu, he, goInt]
    · exact hk.elim
  · rename_i hu
    split at hk
    · rename_i b hx
      refine ⟨_, _, _, okQuiet fun w p c F D a hev => ⟨_, ?_, .ex _ _⟩, hk⟩
      have he := (hx ▸ hev x : Rep w p c F D _ _).ex_inv
      simp [execOp, ho, resolve, hc, ha', ht', invoke, builtin, Builtin.len_, run_underlying hu, he, goInt]
    · exact hk.elim
  · rename_i n e hu
    refine ⟨_, _, _, okQuiet fun w p c F D a hev => ⟨_, ?_, .ex _ _⟩, hk⟩
    simp [execOp, ho, resolve, hc, ha', ht', invoke, builtin, Builtin.len_, run_underlying hu, goInt]
  · exact hk.elim
end
end Go.Proofs.Ytfonmnodjmeigaa.Av
