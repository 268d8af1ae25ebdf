/- The abstract machine's operations are true of the model: indexes, cuts, literals; and all of them at once. No program's law is stated here. No conditions. -/
import Derived.Test.YtfonmnodjmeigaaAv9
namespace Go.Proofs.Ytfonmnodjmeigaa.Av
open Go Go.RowKit
set_option linter.unusedVariables false
set_option linter.unusedSimpArgs false

section
variable {P : Program} {o : Oper} {sl : Sl} {h : Hp} {nx : Nat} {k : Kt}
theorem ok_index {t : TypeId} {x y : Operand} (ho : o.op = .index t x y) (hk : opIndex P sl t x y k) : Is P o sl h nx k := by
  unfold opIndex at hk
  split at hk
  · rename_i hu
    split at hk
    case h_2 => exact hk.elim
    rename_i s kk i hx hy
    obtain ⟨b, ⟨h0, hb⟩, hk⟩ := hk
    refine ⟨_, _, _, okQuiet fun w p c F D a hev => ⟨_, ?_, .ex _ _⟩, hk⟩
    have hx' := (hx ▸ hev x : Rep w p c F D _ _).ex_inv
    have hy' := (hy ▸ hev y : Rep w p c F D _ _).ex_inv
    simp [execOp, ho, hx', hy', Instr.index, asIntOf, run_underlying hu, h0, hb]
  · rename_i n e hu
    split at hk
    case h_2 => exact hk.elim
    rename_i us kk i hx hy
    split at hk
    case h_2 => exact hk.elim
    rename_i hkd hone
    obtain ⟨hi, v, hv, hk⟩ := hk
    refine ⟨_, _, _, okQuiet fun w p c F D a hev => ⟨v, ?_, .ex _ _⟩, hk⟩
    have h1 : 1 = sizeT P e := Nat.eq_of_beq_eq_true hone
    have hx' := (hx ▸ hev x : Rep w p c F D _ _).ex_inv
    have hy' := (hy ▸ hev y : Rep w p c F D _ _).ex_inv
    have hso := (size_run (P := P) (w := w) (t := e) (by rw [← h1]; rfl)).1
    rw [← h1] at hso
    have hkf := kind_false (w := w) hkd
    have hpart : (part e us i.toNat).run P w = .ok v w := by simp [part, hkf, hv]
    simp [execOp, ho, hx', hy', Instr.index, asIntOf, run_underlying hu, hi, hso, hpart]
  · exact hk.elim
theorem bnd_ok {sl : Sl} {d i : Int} {x : Option Operand} (hb : bndV sl d x = some i) {w : World} {p : Nat → Option Nat} {c : Nat → Nat} {F : Nat → Nat → Prop} {D : Nat → Prop} {a : Act} (hev : ∀ x, Rep w p c F D (ev sl x) (a.eval x)) :
    (x = none ∧ i = d) ∨ ∃ y kk, x = some y ∧ a.eval y = .int kk i := by
  unfold bndV at hb
  split at hb
  · injection hb with hb; exact .inl ⟨rfl, hb.symm⟩
  · rename_i y
    split at hb
    · rename_i kk j hy
      injection hb with hb; subst hb
      exact .inr ⟨y, kk, rfl, (hy ▸ hev y : Rep w p c F D _ _).ex_inv⟩
    · cases hb
theorem ok_slice {t : TypeId} {x : Operand} {lo hi mx : Option Operand} (ho : o.op = .slice t x lo hi mx) (hk : opSlice P sl h t x lo hi mx k) : Is P o sl h nx k := by
  unfold opSlice at hk
  split at hk
  · rename_i hu
    split at hk
    case h_2 => exact hk.elim
    rename_i s hx
    split at hk
    case h_2 => exact hk.elim
    rename_i l u hl hh
    obtain ⟨⟨h0, h1, h2⟩, hk⟩ := hk
    refine ⟨_, _, _, okQuiet fun w p c F D a hev => ⟨_, ?_, .ex _ _⟩, hk⟩
    have hx' := (hx ▸ hev x : Rep w p c F D _ _).ex_inv
    have e1 : u.toNat ≤ s.size := by omega
    rcases bnd_ok hl hev with ⟨rfl, rfl⟩ | ⟨y, kk, rfl, hy⟩ <;> rcases bnd_ok hh hev with ⟨rfl, rfl⟩ | ⟨y2, kk2, rfl, hy2⟩
    · simp [execOp, ho, hx', Instr.sliceAt, Instr.slice, run_underlying hu, Instr.sliceBounds]
    · simp [execOp, ho, hx', hy2, Instr.sliceAt, Instr.slice, run_underlying hu, Instr.sliceBounds, Instr.sliceBound, asIntOf, h1, h2]
    · simp [execOp, ho, hx', hy, Instr.sliceAt, Instr.slice, run_underlying hu, Instr.sliceBounds, Instr.sliceBound, asIntOf, h0, h1]
    · have e2 : 0 ≤ u := by omega
      have e3 : (u.toNat : Int) = u := by omega
      simp [execOp, ho, hx', hy, hy2, Instr.sliceAt, Instr.slice, run_underlying hu, Instr.sliceBounds, Instr.sliceBound, asIntOf, h0, h1, h2, e2, e3]
  · rename_i e hu
    have bounds : ∀ {w : World} {p : Nat → Option Nat} {c : Nat → Nat} {F : Nat → Nat → Prop} {D : Nat → Prop} {a : Act} {l u : Int} {n cap : Nat}, (∀ x, Rep w p c F D (ev sl x) (a.eval x)) → bndV sl 0 lo = some l → bndV sl n hi = some u → 0 ≤ l → l ≤ u → u ≤ n → n ≤ cap →
        (Instr.sliceBounds true n cap (lo.map a.eval) (hi.map a.eval) none).run P w = .ok (l.toNat, u.toNat, cap) w := by
      intro w p c F D a l u n cap hev hl hh h0 h1 h2 h3
      have e1 : u ≤ (cap : Int) := by omega
      rcases bnd_ok hl hev with ⟨rfl, rfl⟩ | ⟨y, kk, rfl, hy⟩ <;> rcases bnd_ok hh hev with ⟨rfl, rfl⟩ | ⟨y2, kk2, rfl, hy2⟩
      · simp [Instr.sliceBounds]
      · simp [hy2, Instr.sliceBounds, Instr.sliceBound, asIntOf, h1, e1]
      · simp [hy, Instr.sliceBounds, Instr.sliceBound, asIntOf, h0, h1]
      · have e2 : 0 ≤ u := by omega
        have e3 : (u.toNat : Int) = u := by omega
        simp [hy, hy2, Instr.sliceBounds, Instr.sliceBound, asIntOf, h0, h1, e1, e2, e3]
    have runS : ∀ {w : World} {a : Act} {l u : Int} {n cap : Nat} {base : Option Addr}, a.eval x = .slice base n cap → (Instr.sliceBounds true n cap (lo.map a.eval) (hi.map a.eval) none).run P w = .ok (l.toNat, u.toNat, cap) w → mx = none → (sizeOf e).run P w = .ok (sizeT P e) w →
        (execOp a.eval o).run P w = .ok (.value (.slice (if cap = l.toNat then base else base.map (·.add (l.toNat * sizeT P e))) (u.toNat - l.toNat) (cap - l.toNat))) w := by
      intro w a l u n cap base hx hb hm hs
      subst hm
      simp [execOp, ho, hx, Instr.sliceAt, Instr.slice, run_underlying hu, hb, hs]
    -- a window, cut
    have cut : ∀ {w : World} {p : Nat → Option Nat} {c : Nat → Nat} {F : Nat → Nat → Prop} {D : Nat → Prop} {g q kk n : Nat} {cs : List AV} {uu : Nat → Value} {l u : Int}, 0 ≤ l → l ≤ u → u ≤ n → n ≤ kk → Win w p c F g q cs uu →
        Rep w p c F D (.vs (u.toNat - l.toNat) (takeL cs (mulS l.toNat (sizeT P e)) (mulS (u.toNat - l.toNat) (sizeT P e)))) (.slice (if kk = l.toNat then some ⟨g, q, none⟩ else (some (⟨g, q, none⟩ : Addr)).map (·.add (l.toNat * sizeT P e))) (u.toNat - l.toNat) (kk - l.toNat)) := by
      intro w p c F D g q kk n cs uu l u h0 h1 h2 h3 hw
      by_cases hc : kk = l.toNat
      · rw [if_pos hc]
        have e1 : u.toNat - l.toNat = 0 := by omega
        have e2 : takeL cs (mulS l.toNat (sizeT P e)) (mulS 0 (sizeT P e)) = [] := by simp [mulS_eq, takeL]
        rw [e1, e2]
        exact .vs _ 0 [] g q _ (fun _ => undef) (by omega) (fun j hj => by simp at hj) fun j hj => by simp at hj
      · rw [if_neg hc]
        have hw' := hw.take (mulS l.toNat (sizeT P e)) (mulS (u.toNat - l.toNat) (sizeT P e))
        simp only [Option.map_some, Addr.add_lit]
        rw [← mulS_eq l.toNat]
        exact .vs _ _ _ g _ _ _ (by omega) hw'.1 hw'.2
    split at hk
    case h_2 => exact hk.elim
    rename_i hpos
    have hso := fun w => (size_run (P := P) (w := w) hpos).1
    split at hk
    case h_3 => exact hk.elim
    · rename_i n cs hx
      split at hk
      case h_2 => exact hk.elim
      rename_i l u hl hh
      obtain ⟨⟨h0, h1, h2, h3⟩, hk⟩ := hk
      refine ⟨_, _, _, okQuiet fun w p c F D a hev => ?_, hk⟩
      rcases (hx ▸ hev x : Rep w p c F D _ _).vs_inv with ⟨rfl, rfl, hxv⟩ | ⟨g, q, kk, uu, hn, hxv, hw⟩
      · refine ⟨_, runS hxv (bounds hev hl hh h0 h1 h2 (Nat.le_refl _)) rfl (hso w), ?_⟩
        have e1 : l.toNat = 0 := by omega
        have e2 : u.toNat = 0 := by omega
        rw [e1, e2]
        have : takeL ([] : List AV) (mulS 0 (sizeT P e)) (mulS (0 - 0) (sizeT P e)) = [] := by simp [mulS_eq, takeL]
        rw [this]; exact .vnil _
      · exact ⟨_, runS hxv (bounds hev hl hh h0 h1 h2 hn) rfl (hso w), cut h0 h1 h2 hn hw⟩
    · rename_i r n hx
      split at hk
      case h_2 => exact hk.elim
      rename_i cs el fz hb
      split at hk
      case h_2 => exact hk.elim
      rename_i l u hl hh
      obtain ⟨⟨h0, h1, h2, h3⟩, hk⟩ := hk
      refine ⟨_, _, _, ?_, hk⟩
      intro w0 F0 m D p c F slots heap a w next Q hrel hev hh' hfresh hnext
      obtain ⟨F1, g1, g2, g3, g4⟩ := hrel.freezes_ [r] (viewF_of hh')
      obtain ⟨hd, hn, hxv⟩ := (hx ▸ hev x : Rep w p c F D _ _).sl_inv
      have hB := (hrel.live r _ (hh' r _ hb)).2
      refine wp_value (runS hxv (bounds hev hl hh h0 h1 h2 hn) rfl (hso w)) (hnext _ w D p c F1 g1 ?_ fun i => ⟨.inl, fun h => by rcases h with h | h; exact h; omega⟩)
      cases hp : p r with
      | none =>
        unfold BlkOk at hB
        rw [hp] at hB
        obtain ⟨q1, q2, _⟩ := hB
        simp only at q1
        subst q1
        have e0 : n = 0 := by omega
        have e1 : l.toNat = 0 := by omega
        have e2 : u.toNat = 0 := by omega
        rw [e1, e2, q2]
        have : takeL ([] : List AV) (mulS 0 (sizeT P e)) (mulS (0 - 0) (sizeT P e)) = [] := by simp [mulS_eq, takeL]
        rw [this]; exact .vnil _
      | some g =>
        obtain ⟨us, t, frz, k1, k2, k3, k4, k5⟩ := hB.at hp
        refine cut (uu := fun j => us.getD j undef) h0 h1 h2 hn ⟨fun j hj => ⟨by rw [Nat.zero_add]; exact g4 r (by simp) _ hb g hp j hj, by rw [Nat.zero_add]; exact cell_at k1 (by simp only at k3; omega)⟩, fun j hj => ?_⟩
        exact (k4 j hj).mono ⟨fun i hi => hi.elim, g2, fun _ _ _ => rfl⟩
  · exact hk.elim
end
end Go.Proofs.Ytfonmnodjmeigaa.Av
