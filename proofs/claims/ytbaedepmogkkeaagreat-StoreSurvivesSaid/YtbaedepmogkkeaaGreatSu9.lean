/- What the claim stands on, Su9: contracts of functions and plain facts. No conditions. -/
import Derived.Test.YtbaedepmogkkeaaGreatSu7
import Derived.Laws.Tables
import Derived.Great.BuildSlice
namespace Go.Proofs.YtbaedepmogkkeaaGreat.Av
open Go Go.RowKit
set_option linter.unusedVariables false
set_option linter.unusedSimpArgs false
section
theorem elemN_spec {r : Nat} : ∀ {l : List Nat}, elemN r l = true ↔ r ∈ l
 | [] => by simp [elemN]
 | q :: l => by
  unfold elemN
  by_cases h : q = r
  ·subst h; simp
  ·have : Nat.beq q r = false := by
    cases hb : Nat.beq q r
    ·rfl
    ·exact absurd (Nat.eq_of_beq_eq_true hb) h
   rw [this]
   simp only
   rw [elemN_spec, List.mem_cons]
   constructor
   ·exact .inr
   ·rintro (e | e)
    ·exact absurd e.symm h
    ·exact e
theorem nodupN_spec : ∀ {l : List Nat}, nodupN l = true → l.Nodup
 | [], _ => List.nodup_nil
 | r :: l, h => by
  simp only [nodupN, Bool.and_eq_true, Bool.not_eq_true'] at h
  refine List.nodup_cons.2 ⟨fun hm => ?_, nodupN_spec h.2⟩
  rw [elemN_spec.2 hm] at h; cases h.1
theorem idx_spec {r : Nat} : ∀ {l : List Nat} {i k : Nat}, idx r l i = some k → i ≤ k ∧ l[k - i]? = some r
 | [], i, k, h => by simp [idx] at h
 | q :: l, i, k, h => by
  unfold idx at h
  cases hb : Nat.beq q r with
  | true =>
   rw [hb] at h; injection h with h; subst h
   exact ⟨Nat.le_refl _, by simp [Nat.eq_of_beq_eq_true hb]⟩
  | false =>
   rw [hb] at h
   obtain ⟨h1, h2⟩ := idx_spec h
   refine ⟨by omega, ?_⟩
   have : k - i = (k - (i + 1)) + 1 := by omega
   rw [this]; simpa using h2
section
variable {P : Program} {w : World} {w0 : Ori} {D : Nat → Prop} {p : Nat → Option Nat} {c : Nat → Nat} {F F0 : Nat → Nat → Prop} {m : Fr} {sl : Sl} {h : Hp} {a : Act} {Q : Exit → Act → World → Prop}
def pA (p : Nat → Option Nat) (acc : List Nat) : Nat → Option Nat := fun i => match acc[i]? with
 | some r => p r
 | none => none
def cA (c : Nat → Nat) (acc : List Nat) : Nat → Nat := fun i => match acc[i]? with
 | some r => c r
 | none => 0
theorem renC_ok {acc : List Nat} {v : AV} {x : Value} (hr : Rep w p c F D v x) : Rep w (pA p acc) (cA c acc) F (ltD acc.length) (renC acc v) x := by
 cases hr with
 | ex D => exact .ex _ _
 | unk D => exact .unk _ _
 | ob D K => exact .unk _ _
 | vnil D => exact .vnil _
 | vs D n cs g o k u h1 h2 h3 => exact .vs _ n cs g o k u h1 h2 fun j hj => (h3 j hj).of_no
 | fnil D => exact .fnil _
 | vf D n cs g o u h2 h3 => exact .vf _ n cs g o u h2 fun j hj => (h3 j hj).of_no
 | clo D f cs us h2 h3 => exact .clo _ f cs us h2 fun j hj => (h3 j hj).of_no
 | pt0 D cs => exact .pt0 _ cs
 | pt1 D cs g o u h2 h3 => exact .pt1 _ cs g o u h2 fun j hj => (h3 j hj).of_no
 | vp D cs off g o u h2 h3 => exact .vp _ cs off g o u h2 fun j hj => (h3 j hj).of_no
 | vq D cs off g o u h2 h3 => exact .vq _ cs off g o u h2 fun j hj => (h3 j hj).of_no
 | agg D cs us h1 h2 => exact .unk _ _
 | tup D cs us h1 h2 => exact .unk _ _
 | bm D f r g hd hp =>
  simp only [renC]
  cases hi : idx r acc 0 with
  | none => exact .unk _ _
  | some i =>
   obtain ⟨_, h2⟩ := idx_spec hi
   rw [Nat.sub_zero] at h2
   have hlt := (List.getElem?_eq_some_iff.1 h2).1
   exact .bm _ f i g hlt (by simp only [pA, h2]; exact hp)
 | ptr D r off g hd hp =>
  simp only [renC]
  cases hi : idx r acc 0 with
  | none => exact .unk _ _
  | some i =>
   obtain ⟨_, h2⟩ := idx_spec hi
   rw [Nat.sub_zero] at h2
   have hlt := (List.getElem?_eq_some_iff.1 h2).1
   exact .ptr _ i off g hlt (by simp only [pA, h2]; exact hp)
 | sl D r n hd hn =>
  simp only [renC]
  cases hi : idx r acc 0 with
  | none => exact .unk _ _
  | some i =>
   obtain ⟨_, h2⟩ := idx_spec hi
   rw [Nat.sub_zero] at h2
   have hlt := (List.getElem?_eq_some_iff.1 h2).1
   have e1 : pA p acc i = p r := by simp only [pA, h2]
   have e2 : cA c acc i = c r := by simp only [cA, h2]
   rw [← e1, ← e2]
   exact .sl _ i n hlt (by rw [e2]; exact hn)
theorem renL_length (acc : List Nat) : ∀ l, (renL acc l).length = l.length
 | [] => rfl
 | v :: l => by simp [renL, renL_length acc l]
theorem renL_at (acc : List Nat) : ∀ (l : List AV) (j : Nat) (h : j < (renL acc l).length), (renL acc l)[j] = renC acc (l[j]'(by rw [renL_length] at h; exact h))
 | [], j, h => by simp [renL] at h
 | v :: l, 0, h => rfl
 | v :: l, j + 1, h => renL_at acc l j (Nat.lt_of_succ_lt_succ h)
theorem renV_ok {acc : List Nat} {v : AV} {x : Value} (hr : Rep w p c F D v x) : Rep w (pA p acc) (cA c acc) F (ltD acc.length) (renV acc v) x := by
 cases v with
 | agg cs =>
  obtain ⟨us, rfl, hs, hr⟩ := hr.agg_inv
  exact .agg _ _ us (by rw [renL_length]; exact hs) fun j hj => by rw [renL_at]; exact renC_ok (hr j (by rw [renL_length] at hj; exact hj))
 | _ => exact renC_ok hr
theorem zipB_look : ∀ {bs : List ABlk} {i r : Nat} {b : ABlk}, look (zipB i bs) r = some (some b) → i ≤ r ∧ bs[r - i]? = some b
 | [], i, r, b, h => by simp [zipB, look] at h
 | b0 :: bs, i, r, b, h => by
  simp only [zipB] at h
  rw [look_cons] at h
  by_cases e : i = r
  ·subst e; rw [if_pos rfl] at h; injection h with h; injection h with h; subst h; exact ⟨Nat.le_refl _, by simp⟩
  ·rw [if_neg e] at h
   obtain ⟨h1, h2⟩ := zipB_look h
   refine ⟨by omega, ?_⟩
   have : r - i = (r - (i + 1)) + 1 := by omega
   rw [this]; simpa using h2
def renB (acc : List Nat) (b : ABlk) : ABlk := if b.pu then b else ⟨renL acc b.cells, b.el, b.fz, b.pu⟩
theorem isOb_renB (acc : List Nat) (b : ABlk) : isOb (renB acc b) = isOb b := by
 unfold renB
 cases hp : b.pu with
 | true => rw [if_pos rfl]
 | false => rw [if_neg (by decide), isOb_pu hp]; exact isOb_pu rfl
theorem isOb_rhoB (mp : List (Nat × Nat)) (nx : Nat) (b : ABlk) : isOb (rhoB mp nx b) = isOb b := by
 obtain ⟨cs, el, fz, pu⟩ := b
 cases pu with
 | true => rfl
 | false =>
  have e1 : isOb ⟨cs, el, fz, false⟩ = none := isOb_pu rfl
  have e2 : isOb (rhoB mp nx ⟨cs, el, fz, false⟩) = none := isOb_pu rfl
  rw [e1, e2]
theorem foot_eq {w : World} {b b' : ABlk} {g x : Nat} (h : isOb b' = isOb b) : foot w b' g x ↔ foot w b g x := by
 unfold foot; rw [h]
theorem liveB_len (acc : List Nat) (h : Hp) : ∀ (l : List Nat), (liveB acc h l).length ≤ l.length
 | [] => Nat.le_refl _
 | r :: l => by
  have := liveB_len acc h l
  unfold liveB
  split
  ·simp; omega
  ·simp; omega
  ·simp; omega
theorem liveB_at {acc : List Nat} : ∀ {l : List Nat}, (liveB acc h l).length = l.length → ∀ (i r : Nat), l[i]? = some r → ∃ b, blkOf h r = some b ∧ (liveB acc h l)[i]? = some (renB acc b)
 | [], _, i, r, hi => by simp at hi
 | q :: l, hl, i, r, hi => by
  have hle := liveB_len acc h l
  unfold liveB at hl ⊢
  split at hl
  ·rename_i cs el fz hb
   cases i with
   | zero => simp at hi; subst hi; exact ⟨_, hb, rfl⟩
   | succ i => simpa using liveB_at (by simpa using hl) i r (by simpa using hi)
  ·rename_i cs el fz hb
   cases i with
   | zero => simp at hi; subst hi; exact ⟨_, hb, rfl⟩
   | succ i => simpa using liveB_at (by simpa using hl) i r (by simpa using hi)
  ·simp at hl; omega
end
section
variable {P : Program} {w w' : World} {w0 : Ori} {D : Nat → Prop} {p : Nat → Option Nat} {c : Nat → Nat} {F F0 : Nat → Nat → Prop} {m : Fr} {slots : Sl} {heap h : Hp} {a : Act}
theorem blks_of (hr : Rel P w0 F0 m D p c F slots heap a w) (hv : ∀ r b, blkOf h r = some b → look heap r = some (some b)) {acc : List Nat} (hnd : acc.Nodup) (hlen : (liveB acc h acc).length = acc.length) :
  BlksOk P w (pA p acc) (cA c acc) F (liveB acc h acc) ∧ ∀ x, inM w (pA p acc) (liveB acc h acc) x → ∃ r b g, r ∈ acc ∧ look heap r = some (some b) ∧ p r = some g ∧ foot w b g x := by
 have key : ∀ (i : Nat) (b' : ABlk), (liveB acc h acc)[i]? = some b' → ∃ (r : Nat) (b : ABlk), acc[i]? = some r ∧ look heap r = some (some b) ∧ b' = renB acc b := by
  intro i b' h2
  have hlt : i < acc.length := by rw [← hlen]; exact (List.getElem?_eq_some_iff.1 h2).1
  obtain ⟨b, k1, k2⟩ := liveB_at hlen i acc[i] (List.getElem?_eq_getElem hlt)
  rw [k2] at h2; injection h2 with h2
  exact ⟨acc[i], b, List.getElem?_eq_getElem hlt, hv _ _ k1, h2.symm⟩
 have hp : ∀ (i r : Nat), acc[i]? = some r → pA p acc i = p r ∧ cA c acc i = c r := fun i r hi => ⟨by simp only [pA, hi], by simp only [cA, hi]⟩
 have hbc : ∀ b : ABlk, (renB acc b).cells.length = b.cells.length ∧ (renB acc b).el = b.el ∧ (renB acc b).fz = b.fz ∧ (renB acc b).pu = b.pu := by
  intro b; unfold renB
  split
  ·exact ⟨rfl, rfl, rfl, rfl⟩
  ·exact ⟨renL_length _ _, rfl, rfl, rfl⟩
 have at_ : ∀ (i : Nat), i < (liveB acc h acc).length → ∃ (r : Nat) (b : ABlk), acc[i]? = some r ∧ look heap r = some (some b) := fun i hi => by
  obtain ⟨r, b, k1, k2, _⟩ := key i _ (List.getElem?_eq_getElem hi)
  exact ⟨r, b, k1, k2⟩
 refine ⟨⟨fun i b' hi => ?_, fun i i' g h1 h2 p1 p2 => ?_, fun i b' g j hi hpi hj => ?_, fun i b' K g hi hK hpi => ?_⟩, fun x hx => ?_⟩
 ·obtain ⟨r, b, h1, h2, rfl⟩ := key i b' hi
  rw [hlen]
  have hB := (hr.live r b h2).2
  obtain ⟨e1, e2, e3, e4⟩ := hbc b
  unfold BlkOk at hB ⊢
  rw [(hp i r h1).1, (hp i r h1).2, e2]
  cases hpr : p r with
  | none =>
   rw [hpr] at hB
   simp only at hB ⊢
   exact ⟨List.eq_nil_of_length_eq_zero (by rw [e1, hB.1]; rfl), hB.2⟩
  | some g =>
   rw [hpr] at hB
   simp only at hB ⊢
   obtain ⟨us, t, fr, k1, k2, k3, k4, k5⟩ := hB
   refine ⟨us, t, fr, k1, k2, by rw [e1]; exact k3, fun j hj => ?_, k5⟩
   have hj' : j < b.cells.length := by rw [e1] at hj; exact hj
   have h4 := k4 j hj'
   rw [e4]
   cases hpu : b.pu with
   | true =>
    have ec : (renB acc b).cells = b.cells := by unfold renB; rw [hpu]; rfl
    rw [hpu] at h4
    simp only [ec]
    exact h4.of_no
   | false =>
    have ec : (renB acc b).cells = renL acc b.cells := by unfold renB; rw [hpu]; rfl
    rw [hpu] at h4
    simp only [ec]
    rw [renL_at]
    exact renC_ok h4
 ·obtain ⟨r, b, q1, q2⟩ := at_ i h1
  obtain ⟨r', b', q1', q2'⟩ := at_ i' h2
  rw [(hp i r q1).1] at p1
  rw [(hp i' r' q1').1] at p2
  have := hr.inj r r' b b' g q2 q2' p1 p2
  subst this
  exact (List.getElem?_inj (List.getElem?_eq_some_iff.1 q1).1 hnd).1 (q1.trans q1'.symm)
 ·obtain ⟨r, b, q1, q2, rfl⟩ := key i b' hi
  rw [(hp i r q1).1] at hpi
  obtain ⟨e1, e2, e3, e4⟩ := hbc b
  obtain ⟨k1, k2⟩ := hr.fz r b g j q2 hpi hj
  exact ⟨by rw [e3]; exact k1, by rw [e1]; exact k2⟩
 ·obtain ⟨r, b, q1, q2, rfl⟩ := key i b' hi
  rw [isOb_renB] at hK
  rw [(hp i r q1).1] at hpi
  obtain ⟨k1, k2⟩ := hr.ob r b K g q2 hK hpi
  refine ⟨k1, fun x hx => ?_⟩
  obtain ⟨_, k3, k4, k5⟩ := k2 x hx
  refine ⟨k3, k4, fun i' b'' g' hi' hp' hne hf => ?_⟩
  obtain ⟨r', b2, q1', q2', rfl⟩ := key i' b'' hi'
  rw [(hp i' r' q1').1] at hp'
  refine k5 r' b2 g' q2' hp' (fun e => hne ?_) ((foot_eq (isOb_renB acc b2)).1 hf)
  subst e
  exact (List.getElem?_inj (List.getElem?_eq_some_iff.1 q1').1 hnd).1 (q1'.trans q1.symm)
 ·obtain ⟨i, b', g, hi, hpi, hf⟩ := hx
  obtain ⟨r, b, q1, q2, rfl⟩ := key i b' hi
  rw [(hp i r q1).1] at hpi
  exact ⟨r, b, g, List.mem_of_getElem? q1, q2, hpi, (foot_eq (isOb_renB acc b)).1 hf⟩
theorem renVL_length (acc : List Nat) : ∀ l, (renVL acc l).length = l.length
 | [] => rfl
 | v :: l => by simp [renVL, renVL_length acc l]
theorem renVL_at (acc : List Nat) : ∀ (l : List AV) (j : Nat) (h : j < (renVL acc l).length), (renVL acc l)[j] = renV acc (l[j]'(by rw [renVL_length] at h; exact h))
 | [], j, h => by simp [renVL] at h
 | v :: l, 0, h => rfl
 | v :: l, j + 1, h => renVL_at acc l j (Nat.lt_of_succ_lt_succ h)
end
section
variable {w' : World} {p' P' : Nat → Option Nat} {c' C' : Nat → Nat} {F' : Nat → Nat → Prop} {D' : Nat → Prop} {mp : List (Nat × Nat)} {nx n' : Nat}
theorem rhoC_ok (H : ∀ i, i < n' → look mp i = none → P' (nx + i) = p' i ∧ C' (nx + i) = c' i ∧ D' (nx + i)) (Hm : ∀ i r, i < n' → look mp i = some r → P' r = p' i ∧ D' r) {v : AV} {x : Value} (h : Rep w' p' c' F' (ltD n') v x) :
  Rep w' P' C' F' D' (rhoC mp nx v) x := by
 cases h with
 | ex D => exact .ex _ _
 | unk D => exact .unk _ _
 | ob D K => exact .unk _ _
 | vnil D => exact .vnil _
 | vs D n cs g o k u h1 h2 h3 => exact .vs _ n cs g o k u h1 h2 fun j hj => (h3 j hj).of_no
 | fnil D => exact .fnil _
 | vf D n cs g o u h2 h3 => exact .vf _ n cs g o u h2 fun j hj => (h3 j hj).of_no
 | clo D f cs us h2 h3 => exact .clo _ f cs us h2 fun j hj => (h3 j hj).of_no
 | pt0 D cs => exact .pt0 _ cs
 | pt1 D cs g o u h2 h3 => exact .pt1 _ cs g o u h2 fun j hj => (h3 j hj).of_no
 | vp D cs off g o u h2 h3 => exact .vp _ cs off g o u h2 fun j hj => (h3 j hj).of_no
 | vq D cs off g o u h2 h3 => exact .vq _ cs off g o u h2 fun j hj => (h3 j hj).of_no
 | agg D cs us h1 h2 => exact .unk _ _
 | tup D cs us h1 h2 => exact .unk _ _
 | bm D f i g hd hp =>
  have hd : i < n' := hd
  simp only [rhoC, rhoM]
  cases hm : look mp i with
  | none => obtain ⟨h1, _, h3⟩ := H i hd hm; exact .bm _ f _ g h3 (h1.trans hp)
  | some r => obtain ⟨h1, h3⟩ := Hm i r hd hm; exact .bm _ f _ g h3 (h1.trans hp)
 | ptr D i off g hd hp =>
  have hd : i < n' := hd
  simp only [rhoC, rhoM]
  cases hm : look mp i with
  | none => obtain ⟨h1, _, h3⟩ := H i hd hm; exact .ptr _ _ off g h3 (h1.trans hp)
  | some r => obtain ⟨h1, h3⟩ := Hm i r hd hm; exact .ptr _ _ off g h3 (h1.trans hp)
 | sl D i n hd hn =>
  have hd : i < n' := hd
  simp only [rhoC]
  cases hm : look mp i with
  | none =>
   obtain ⟨h1, h2, h3⟩ := H i hd hm
   rw [← h1, ← h2]
   exact .sl _ _ n h3 (by rw [h2]; exact hn)
  | some r => exact .unk _ _
theorem rhoL_length (mp : List (Nat × Nat)) (nx : Nat) : ∀ l, (rhoL mp nx l).length = l.length
 | [] => rfl
 | v :: l => by simp [rhoL, rhoL_length mp nx l]
theorem rhoL_at (mp : List (Nat × Nat)) (nx : Nat) : ∀ (l : List AV) (j : Nat) (h : j < (rhoL mp nx l).length), (rhoL mp nx l)[j] = rhoC mp nx (l[j]'(by rw [rhoL_length] at h; exact h))
 | [], j, h => by simp [rhoL] at h
 | v :: l, 0, h => rfl
 | v :: l, j + 1, h => rhoL_at mp nx l j (Nat.lt_of_succ_lt_succ h)
theorem rhoVL_length (mp : List (Nat × Nat)) (nx : Nat) : ∀ l, (rhoVL mp nx l).length = l.length
 | [] => rfl
 | v :: l => by simp [rhoVL, rhoVL_length mp nx l]
theorem rhoVL_at (mp : List (Nat × Nat)) (nx : Nat) : ∀ (l : List AV) (j : Nat) (h : j < (rhoVL mp nx l).length), (rhoVL mp nx l)[j] = rhoV mp nx (l[j]'(by rw [rhoVL_length] at h; exact h))
 | [], j, h => by simp [rhoVL] at h
 | v :: l, 0, h => rfl
 | v :: l, j + 1, h => rhoVL_at mp nx l j (Nat.lt_of_succ_lt_succ h)
theorem rhoV_ok (H : ∀ i, i < n' → look mp i = none → P' (nx + i) = p' i ∧ C' (nx + i) = c' i ∧ D' (nx + i)) (Hm : ∀ i r, i < n' → look mp i = some r → P' r = p' i ∧ D' r) {v : AV} {x : Value} (h : Rep w' p' c' F' (ltD n') v x) :
  Rep w' P' C' F' D' (rhoV mp nx v) x := by
 cases v with
 | agg cs =>
  obtain ⟨us, rfl, hs, hr⟩ := h.agg_inv
  exact .agg _ _ us (by rw [rhoL_length]; exact hs) fun j hj => by rw [rhoL_at]; exact rhoC_ok H Hm (hr j (by rw [rhoL_length] at hj; exact hj))
 | _ => exact rhoC_ok H Hm h
theorem rhoR_ok (H : ∀ i, i < n' → look mp i = none → P' (nx + i) = p' i ∧ C' (nx + i) = c' i ∧ D' (nx + i)) (Hm : ∀ i r, i < n' → look mp i = some r → P' r = p' i ∧ D' r) {v : AV} {x : Value} (h : Rep w' p' c' F' (ltD n') v x) :
  Rep w' P' C' F' D' (rhoR mp nx v) x := by
 cases v with
 | tup cs =>
  obtain ⟨us, rfl, hs, hr⟩ := h.tup_inv
  exact .tup _ _ us (by rw [rhoVL_length]; exact hs) fun j hj => by rw [rhoVL_at]; exact rhoV_ok H Hm (hr j (by rw [rhoVL_length] at hj; exact hj))
 | _ => exact rhoV_ok H Hm h
theorem rhoB_spec (mp : List (Nat × Nat)) (nx : Nat) (b : ABlk) : (rhoB mp nx b).cells.length = b.cells.length ∧ (rhoB mp nx b).el = b.el ∧ (rhoB mp nx b).fz = b.fz ∧ (rhoB mp nx b).pu = b.pu ∧ (b.pu = true → (rhoB mp nx b).cells = b.cells) ∧ (b.pu = false → (rhoB mp nx b).cells = rhoL mp nx b.cells) := by
 obtain ⟨cs, el, fz, pu⟩ := b
 cases pu
 ·exact ⟨rhoL_length _ _ _, rfl, rfl, rfl, (fun h => by cases h), fun _ => rfl⟩
 ·exact ⟨rfl, rfl, rfl, rfl, fun _ => rfl, (fun h => by cases h)⟩
theorem backB_look {q : Nat} {b : ABlk} : ∀ {l : List ABlk} {i0 : Nat}, look (backB mp nx i0 l) q = some (some b) → ∃ i b0, i0 ≤ i ∧ l[i - i0]? = some b0 ∧ b = rhoB mp nx b0 ∧ ((look mp i = some q ∧ b0.el = none) ∨ (look mp i = none ∧ q = nx + i))
 | [], i0, h => by simp [backB, look] at h
 | b1 :: l, i0, h => by
  have next : look (backB mp nx (i0 + 1) l) q = some (some b) → ∃ i b0, i0 ≤ i ∧ (b1 :: l)[i - i0]? = some b0 ∧ b = rhoB mp nx b0 ∧ ((look mp i = some q ∧ b0.el = none) ∨ (look mp i = none ∧ q = nx + i)) := by
   intro h
   obtain ⟨i, b0, k1, k2, k3⟩ := backB_look h
   refine ⟨i, b0, by omega, ?_, k3⟩
   rw [show i - i0 = (i - (i0 + 1)) + 1 by omega]; simpa using k2
  unfold backB at h
  split at h
  ·rename_i r hm hel
   rw [look_cons] at h
   split at h
   ·rename_i e
    injection h with h; injection h with h; subst h
    exact ⟨i0, b1, Nat.le_refl _, by simp, rfl, .inl ⟨by rw [hm, e], hel⟩⟩
   ·exact next h
  ·rw [look_cons] at h
   split at h
   ·injection h with h; cases h
   ·exact next h
  ·rename_i hm
   rw [look_cons] at h
   split at h
   ·rename_i e
    injection h with h; injection h with h; subst h
    exact ⟨i0, b1, Nat.le_refl _, by simp, rfl, .inr ⟨hm, e.symm⟩⟩
   ·exact next h
theorem dropB_look {q : Nat} : ∀ {l : List Nat}, look (dropB l) q = (if q ∈ l then some none else none)
 | [] => by simp [dropB, look]
 | r :: l => by
  simp only [dropB]
  rw [look_cons, dropB_look]
  by_cases e : r = q
  ·subst e; simp
  ·have e2 : ¬ q = r := fun h => e h.symm
   simp [e, e2]
theorem look_app' {α : Type} : ∀ (d h : List (Nat × α)) (r : Nat), look (d ++ h) r = match look d r with | some x => some x | none => look h r
 | [], h, r => rfl
 | (q, v) :: d, h, r => by
  rw [List.cons_append, look_cons, look_cons]
  by_cases e : q = r
  ·rw [if_pos e, if_pos e]
  ·rw [if_neg e, if_neg e]; exact look_app' d h r
theorem backIds_look {i r : Nat} : ∀ {as bs : List AV}, look (backIds as bs) i = some r → ∃ (j o o' : Nat), as[j]? = some (AV.ptr r o) ∧ bs[j]? = some (AV.ptr i o')
 | [], bs, h => by simp [backIds, look] at h
 | a :: as, [], h => by simp [backIds, look] at h
 | a :: as, b :: bs, h => by
  have next : look (backIds as bs) i = some r → ∃ (j o o' : Nat), (a :: as)[j]? = some (AV.ptr r o) ∧ (b :: bs)[j]? = some (AV.ptr i o') := by
   intro h
   obtain ⟨j, o, o', h1, h2⟩ := backIds_look h
   exact ⟨j + 1, o, o', by simpa using h1, by simpa using h2⟩
  unfold backIds at h
  split at h
  ·rename_i r1 o1 i1 o2
   rw [look_cons] at h
   split at h
   ·rename_i e
    injection h with h; subst h; subst e
    exact ⟨0, o1, o2, rfl, rfl⟩
   ·exact next h
  ·exact next h
end
section
variable {P : Program} {o : Oper} {sl : Sl} {h : Hp} {nx : Nat} {k : Kt}
theorem Rel.backM {w w' : World} {w0 : Ori} {D : Nat → Prop} {p p' : Nat → Option Nat} {c c' : Nat → Nat} {F F' F0 : Nat → Nat → Prop} {m : Fr} {slots : Sl} {heap : Hp} {a : Act} {acc : List Nat} {as rargs : List AV} {xs : Array Value} {bs' : List ABlk} {M : Nat → Prop} (hin : ∀ x, M x → ∃ r b g, r ∈ acc ∧ look heap r = some (some b) ∧ p r = some g ∧ foot w b g x)
  (hr : Rel P w0 F0 m D p c F slots heap a w) (hacc : ∀ r, r ∈ acc → ∃ b, look heap r = some (some b)) (has : ∀ j (h : j < as.length), Rep w p c F D as[j] (xs.getD j undef)) (hfresh : ∀ i, nx ≤ i → i < nx + bs'.length → ¬ D i)
  (hH : Held ⟨w, M, #[], []⟩ w') (hF : ∀ g j, F g j → F' g j ∧ w'.cell? ⟨g, j, none⟩ = w.cell? ⟨g, j, none⟩) (hF2 : ∀ g j, F' g j → g < w'.heap.size ∧ (F g j ∨ (Ori.mk w (M) #[] []).mine g))
  (hB : BlksOk P w' p' c' F' bs') (hown : ∀ i b g x, bs'[i]? = some b → p' i = some g → foot w' b g x → (Ori.mk w (M) #[] []).mine x) (hra : ∀ j (h : j < rargs.length), Rep w' p' c' F' (ltD bs'.length) rargs[j] (xs.getD j undef)) :
  ∃ D' P' C', Rel P w0 F0 m D' P' C' F' slots (backB (backIds as rargs) nx 0 bs' ++ dropB acc ++ heap) a w' ∧ (∀ i, D' i ↔ D i ∨ (nx ≤ i ∧ i < nx + bs'.length)) ∧
   (∀ {r : AV} {x : Value}, Rep w' p' c' F' (ltD bs'.length) r x → Rep w' P' C' F' D' (rhoR (backIds as rargs) nx r) x) := by
 let mp := backIds as rargs
 let P' : Nat → Option Nat := fun i => if nx ≤ i ∧ i < nx + bs'.length then p' (i - nx) else p i
 let C' : Nat → Nat := fun i => if nx ≤ i ∧ i < nx + bs'.length then c' (i - nx) else c i
 let D' : Nat → Prop := fun i => D i ∨ (nx ≤ i ∧ i < nx + bs'.length)
 have hmine : ∀ g, (Ori.mk w (M) #[] []).mine g → w0.mine g := by
  rintro g (h1 | h1)
  ·exact hr.below.mine_of h1
  ·obtain ⟨r, b, g0, h2, hb, h3, hf⟩ := hin g h1
   rcases hf with rfl | ⟨K, k1, k2⟩
   ·exact hr.own r b g hb h3
   ·exact ((hr.ob r b K g0 hb k1 h3).2 g k2).1
 have hPD : ∀ i, D i → P' i = p i ∧ C' i = c i := fun i hi => by
  have : ¬ (nx ≤ i ∧ i < nx + bs'.length) := fun e => hfresh i e.1 e.2 hi
  exact ⟨if_neg this, if_neg this⟩
 have hPn : ∀ i, i < bs'.length → P' (nx + i) = p' i ∧ C' (nx + i) = c' i := fun i hi => by
  have : nx ≤ nx + i ∧ nx + i < nx + bs'.length := ⟨by omega, by omega⟩
  refine ⟨(if_pos this).trans ?_, (if_pos this).trans ?_⟩ <;> rw [Nat.add_sub_cancel_left]
 have ext : Ext w D p c F w' D' P' C' F' := ⟨fun r hr => ⟨.inl hr, hPD r hr⟩, fun g j hj => (hF g j hj).1, fun g j hj => (hF g j hj).2⟩
 -- what a pointer among the arguments pointed to, it points to
 have hmap : ∀ i r, i < bs'.length → look mp i = some r → D r ∧ p r = p' i ∧ ∃ g, p r = some g := by
  intro i r hi hm
  obtain ⟨j, o1, o2, h1, h2⟩ := backIds_look hm
  obtain ⟨l1, e1⟩ := List.getElem?_eq_some_iff.1 h1
  obtain ⟨l2, e2⟩ := List.getElem?_eq_some_iff.1 h2
  have k1 := has j l1
  have k2 := hra j l2
  rw [e1] at k1
  rw [e2] at k2
  obtain ⟨g, q1, q2, q3⟩ := k1.ptr_inv
  obtain ⟨g', _, q2', q3'⟩ := k2.ptr_inv
  rw [q3] at q3'
  injection q3' with q3'
  injection q3' with q3'
  injection q3' with q3' _ _
  subst q3'
  exact ⟨q1, q2.trans q2'.symm, g, q2⟩
 have H : ∀ i, i < bs'.length → look mp i = none → P' (nx + i) = p' i ∧ C' (nx + i) = c' i ∧ D' (nx + i) := fun i hi _ => ⟨(hPn i hi).1, (hPn i hi).2, .inr ⟨by omega, by omega⟩⟩
 have Hm : ∀ i r, i < bs'.length → look mp i = some r → P' r = p' i ∧ D' r := fun i r hi hm => by
  obtain ⟨h1, h2, _⟩ := hmap i r hi hm
  exact ⟨(hPD r h1).1.trans h2, .inl h1⟩
 -- a block behind the call: one that came back, or one that nobody touched
 have split : ∀ q b, look (backB mp nx 0 bs' ++ dropB acc ++ heap) q = some (some b) →
   (∃ i b0, i < bs'.length ∧ bs'[i]? = some b0 ∧ b = rhoB mp nx b0 ∧ P' q = p' i ∧ D' q ∧ (b0.el = none ∨ C' q = c' i) ∧ (q = rhoM mp nx i)) ∨ (look heap q = some (some b) ∧ q ∉ acc) := by
  intro q b hq
  rw [List.append_assoc, look_app'] at hq
  cases hb : look (backB mp nx 0 bs') q with
  | some y =>
   rw [hb] at hq
   injection hq with hq
   subst hq
   obtain ⟨i, b0, _, h2, h3, h4⟩ := backB_look hb
   rw [Nat.sub_zero] at h2
   have hi := (List.getElem?_eq_some_iff.1 h2).1
   rcases h4 with ⟨h4, h5⟩ | ⟨h4, rfl⟩
   ·exact .inl ⟨i, b0, hi, h2, h3, (Hm i q hi h4).1, (Hm i q hi h4).2, .inl h5, by simp only [rhoM, h4]⟩
   ·exact .inl ⟨i, b0, hi, h2, h3, (H i hi h4).1, (H i hi h4).2.2, .inr (H i hi h4).2.1, by simp only [rhoM, h4]⟩
  | none =>
   rw [hb] at hq
   simp only at hq
   rw [look_app', dropB_look] at hq
   by_cases e : q ∈ acc
   ·rw [if_pos e] at hq; injection hq with hq; cases hq
   ·rw [if_neg e] at hq; exact .inr ⟨hq, e⟩
 have apart2 : ∀ q b g x, look heap q = some (some b) → q ∉ acc → p q = some g → foot w b g x → ¬ (Ori.mk w M #[] []).mine x := by
  rintro q b g x hq hn hp hf (h1 | h1)
  ·rcases hf with rfl | ⟨K, k1, k2⟩
   ·have := (hr.live q b hq).2.lt hp
    exact absurd h1 (Nat.not_le.2 this)
   ·exact absurd h1 (Nat.not_le.2 ((hr.ob q b K g hq k1 hp).2 x k2).2.1)
  ·obtain ⟨r, b', g0, h2, hb, h3, hf'⟩ := hin x h1
   have hne : r ≠ q := fun e => hn (e ▸ h2)
   rcases hf with rfl | ⟨K, k1, k2⟩
   ·rcases hf' with rfl | ⟨K', k1', k2'⟩
    ·exact hne (hr.inj r q b' b x hb hq h3 hp)
    ·exact ((hr.ob r b' K' g0 hb k1' h3).2 x k2').2.2.2 q b x hq hp (Ne.symm hne) (.inl rfl)
   ·exact ((hr.ob q b K g hq k1 hp).2 x k2).2.2.2 r b' g0 hb h3 hne hf'
 have apart : ∀ q b g, look heap q = some (some b) → q ∉ acc → p q = some g → ¬ (Ori.mk w M #[] []).mine g := fun q b g hq hn hp => apart2 q b g g hq hn hp (.inl rfl)
 have same : ∀ q b g, look heap q = some (some b) → q ∉ acc → p q = some g → (∀ x, foot w' b g x ↔ foot w b g x) ∧ ∀ K, isOb b = some K → K.K w' g := by
  intro q b g hq hn hp
  cases e : isOb b with
  | none => exact ⟨fun x => by unfold foot; rw [e]; simp, fun K hK => by cases hK⟩
  | some K =>
   obtain ⟨l1, l2⟩ := K.law w w' g (hr.ob q b K g hq e hp).1 (hH.block g (apart q b g hq hn hp)) fun x hx => hH.block x (apart2 q b g x hq hn hp (.inr ⟨K, e, hx⟩))
   refine ⟨fun x => ?_, fun K' hK => by injection hK with hK; subst hK; exact l1⟩
   constructor
   ·rintro (h1 | ⟨K', h1, h2⟩)
    ·exact .inl h1
    ·rw [e] at h1; injection h1 with h1; subst h1; exact .inr ⟨K, e, (l2 x).1 h2⟩
   ·rintro (h1 | ⟨K', h1, h2⟩)
    ·exact .inl h1
    ·rw [e] at h1; injection h1 with h1; subst h1; exact .inr ⟨K, e, (l2 x).2 h2⟩
 refine ⟨D', P', C', hr.upd ext ?_ ?_ ?_ ?_ ?_ ?_ ?_, fun i => Iff.rfl, fun hx => rhoR_ok H Hm hx⟩
 ·intro q b hq
  rcases split q b hq with ⟨i, b0, hi, h2, rfl, h4, h5, h6, _⟩ | ⟨h1, h2⟩
  ·refine ⟨h5, ?_⟩
   have hb := hB.live i b0 h2
   obtain ⟨e1, e2, e3, e4, e5, e6⟩ := rhoB_spec mp nx b0
   unfold BlkOk at hb ⊢
   rw [h4, e2]
   cases hp : p' i with
   | none =>
    rw [hp] at hb
    simp only at hb ⊢
    refine ⟨List.eq_nil_of_length_eq_zero (by rw [e1, hb.1]; rfl), ?_, hb.2.2⟩
    rcases h6 with h6 | h6
    ·exact absurd h6 hb.2.2
    ·rw [h6]; exact hb.2.1
   | some g =>
    rw [hp] at hb
    simp only at hb ⊢
    obtain ⟨us, t, fr, k1, k2, k3, k4, k5⟩ := hb
    refine ⟨us, t, fr, k1, k2, by rw [e1]; exact k3, fun j hj => ?_, fun e he => ?_⟩
    ·have hj' : j < b0.cells.length := by rw [e1] at hj; exact hj
     have k := k4 j hj'
     rw [e4]
     cases hpu : b0.pu with
     | true =>
      rw [hpu] at k
      simp only [e5 hpu]
      exact k.of_no
     | false =>
      rw [hpu] at k
      simp only [e6 hpu]
      rw [rhoL_at]
      exact rhoC_ok H Hm k
    ·rcases h6 with h6 | h6
     ·rw [h6] at he; cases he
     ·rw [h6]; exact k5 e he
  ·have hl := hr.live q b h1
   exact ⟨.inl hl.1, hl.2.mono hl.1 ext fun g hg => hH.block g (apart q b g h1 h2 hg)⟩
 ·intro q q' b1 b2 g h1 h2 p1 p2
  rcases split q b1 h1 with ⟨i, b0, hi, hb0, _, h4, _, _, e1⟩ | ⟨k1, k2⟩
  ·rcases split q' b2 h2 with ⟨i', b0', hi', _, _, h4', _, _, e2⟩ | ⟨k1', k2'⟩
   ·rw [h4] at p1
    rw [h4'] at p2
    have := hB.inj i i' g hi hi' p1 p2
    rw [e1, e2, this]
   ·rw [h4] at p1
    rw [(hPD q' (hr.live q' b2 k1').1).1] at p2
    exact absurd (hown i b0 g g hb0 p1 (.inl rfl)) (apart q' b2 g k1' k2' p2)
  ·rcases split q' b2 h2 with ⟨i', b0', hi', hb0', _, h4', _, _, e2⟩ | ⟨k1', k2'⟩
   ·rw [h4'] at p2
    rw [(hPD q (hr.live q b1 k1).1).1] at p1
    exact absurd (hown i' b0' g g hb0' p2 (.inl rfl)) (apart q b1 g k1 k2 p1)
   ·rw [(hPD q (hr.live q b1 k1).1).1] at p1
    rw [(hPD q' (hr.live q' b2 k1').1).1] at p2
    exact hr.inj q q' b1 b2 g k1 k1' p1 p2
 ·intro q b g hq hp
  rcases split q b hq with ⟨i, b0, hi, hb0, _, h4, _, _, _⟩ | ⟨k1, k2⟩
  ·rw [h4] at hp
   exact hmine g (hown i b0 g g hb0 hp (.inl rfl))
  ·rw [(hPD q (hr.live q b k1).1).1] at hp
   exact hr.own q b g k1 hp
 ·intro g j hj
  obtain ⟨h1, h2⟩ := hF2 g j hj
  rcases h2 with h2 | h2
  ·exact ⟨h1, (hr.fr g j h2).2⟩
  ·exact ⟨h1, .inr (hmine g h2)⟩
 ·intro q b g j hq hp hj
  rcases split q b hq with ⟨i, b0, hi, h2, rfl, h4, _, _, _⟩ | ⟨k1, k2⟩
  ·rw [h4] at hp
   obtain ⟨e1, e2, e3, e4, _⟩ := rhoB_spec mp nx b0
   obtain ⟨q1, q2⟩ := hB.fz i b0 g j h2 hp hj
   exact ⟨by rw [e3]; exact q1, by rw [e1]; exact q2⟩
  ·rw [(hPD q (hr.live q b k1).1).1] at hp
   rcases (hF2 g j hj).2 with h2 | h2
   ·exact hr.fz q b g j k1 hp h2
   ·exact absurd h2 (apart q b g k1 k2 hp)
 ·exact ⟨hH.os.trans hr.below.os, hH.tape.trans hr.below.tape, hH.output.trans hr.below.output, Nat.le_trans hr.below.size hH.size, fun k hk => (hH.block k fun e => hk (hmine k e)).trans (hr.below.block k hk)⟩
 ·intro q b K g hq hK hp
  rcases split q b hq with ⟨i, b0, hi, hb0, rfl, h4, _, _, e1⟩ | ⟨k1, k2⟩
  ·rw [h4] at hp
   rw [isOb_rhoB] at hK
   obtain ⟨l1, l2⟩ := hB.ob i b0 K g hb0 hK hp
   refine ⟨l1, fun x hx => ?_⟩
   obtain ⟨l3, l4, l5⟩ := l2 x hx
   have hmx := hown i b0 g x hb0 hp (.inr ⟨K, hK, hx⟩)
   refine ⟨hmine x hmx, l3, l4, fun q' b' g' hq' hp' hne hf => ?_⟩
   rcases split q' b' hq' with ⟨i', b0', hi', hb0', rfl, h4', _, _, e2⟩ | ⟨k1', k2'⟩
   ·rw [h4'] at hp'
    exact l5 i' b0' g' hb0' hp' (fun e => hne (by rw [e1, e2, e])) ((foot_eq (isOb_rhoB mp nx b0')).1 hf)
   ·rw [(hPD q' (hr.live q' b' k1').1).1] at hp'
    exact apart2 q' b' g' x k1' k2' hp' (((same q' b' g' k1' k2' hp').1 x).1 hf) hmx
  ·rw [(hPD q (hr.live q b k1).1).1] at hp
   obtain ⟨s1, s2⟩ := same q b g k1 k2 hp
   refine ⟨s2 K hK, fun x hx => ?_⟩
   have hx0 : K.fp w g x := by
    rcases (s1 x).1 (.inr ⟨K, hK, hx⟩) with h | ⟨K', h1, h2⟩
    ·have := (K.law w w' g (hr.ob q b K g k1 hK hp).1 (hH.block g (apart q b g k1 k2 hp)) fun x hx => hH.block x (apart2 q b g x k1 k2 hp (.inr ⟨K, hK, hx⟩))).2 x
     exact this.1 hx
    ·rw [hK] at h1; injection h1 with h1; subst h1; exact h2
   obtain ⟨m1, m2, m3, m4⟩ := (hr.ob q b K g k1 hK hp).2 x hx0
   have hna := apart2 q b g x k1 k2 hp (.inr ⟨K, hK, hx0⟩)
   refine ⟨m1, Nat.lt_of_lt_of_le m2 hH.size, fun j hj => ?_, fun q' b' g' hq' hp' hne hf => ?_⟩
   ·rcases (hF2 x j hj).2 with h2 | h2
    ·exact m3 j h2
    ·exact hna h2
   ·rcases split q' b' hq' with ⟨i', b0', hi', hb0', rfl, h4', _, _, e2⟩ | ⟨k1', k2'⟩
    ·rw [h4'] at hp'
     exact hna (hown i' b0' g' x hb0' hp' ((foot_eq (isOb_rhoB mp nx b0')).1 hf))
    ·rw [(hPD q' (hr.live q' b' k1').1).1] at hp'
     exact m4 q' b' g' k1' hp' hne (((same q' b' g' k1' k2' hp').1 x).1 hf)
theorem collect_live {h : Hp} : ∀ (n : Nat) (todo acc : List Nat), (∀ r, r ∈ acc → ∃ b, blkOf h r = some b) → ∀ r, r ∈ collect h n todo acc → ∃ b, blkOf h r = some b
 | 0, _, acc, ha => ha
 | n + 1, [], acc, ha => ha
 | n + 1, q :: todo, acc, ha => by
  have add : ∀ b, blkOf h q = some b → ∀ r, r ∈ acc ++ [q] → ∃ b, blkOf h r = some b := fun b hb r hr => by
   rcases List.mem_append.1 hr with e | e
   ·exact ha r e
   ·rw [List.mem_singleton] at e; subst e; exact ⟨b, hb⟩
  unfold collect
  split
  ·exact collect_live n todo acc ha
  ·split
   ·rename_i hb; exact collect_live n _ _ (add _ hb)
   ·rename_i hb; exact collect_live n _ _ (add _ hb)
   ·exact collect_live n todo acc ha
theorem calleeM_spec {w : World} {p : Nat → Option Nat} {c : Nat → Nat} {F : Nat → Nat → Prop} {D : Nat → Prop} {v : AV} {x : Value} {fid : FuncId} {pre : List AV} (h : calleeM v = some (fid, pre)) (hr : Rep w p c F D v x) :
  ∃ us : Array Value, x = .func (.func fid) us #[] ∧ us.size = pre.length ∧ ∀ j (hj : j < pre.length), Rep w p c F D pre[j] (us.getD j undef) := by
 unfold calleeM at h
 split at h
 ·rename_i fid' fst cap
  split at h
  ·rename_i hq1 hq2
   injection h with h
   injection h with h1 h2
   subst h1 h2
   obtain rfl : fst = #[] := by simpa using hq1
   obtain rfl : cap = #[] := by simpa using hq2
   exact ⟨#[], hr.ex_inv, rfl, fun j hj => by simp at hj⟩
  ·cases h
 ·rename_i f r
  injection h with h
  injection h with h1 h2
  subst h1 h2
  obtain ⟨g, hd, hp, rfl⟩ := hr.bm_inv
  refine ⟨_, rfl, rfl, fun j hj => ?_⟩
  match j, hj with
  | 0, _ => exact .ptr _ r 0 g hd hp
 ·cases h
theorem ok_callM {cl : Call} {f : Operand} (ho : o.op = .call cl) (hc : cl.callee = .value f) (hk : opCallM P sl h nx f cl.args.toList k) : Is P o sl h nx k := by
 unfold opCallM at hk
 split at hk
 case h_2 => exact hk.elim
 rename_i fid pre hf
 have hcl := collect_live (h := h) 40 (idsVs (pre ++ evL sl cl.args.toList)) [] (fun r hr => absurd hr (by simp))
 rw [forceL_eq] at hk
 generalize collect h 40 (idsVs (pre ++ evL sl cl.args.toList)) [] = acc at hk hcl
 split at hk
 case h_2 => exact hk.elim
 rename_i hnd hlen
 rw [forceCs_eq, forceBs_eq] at hk
 have hlen' : (liveB acc h acc).length = acc.length := Nat.eq_of_beq_eq_true hlen
 have hnd' := nodupN_spec hnd
 obtain ⟨rargs, r, bs', hs, hk⟩ := hk
 rw [forceT_eq, forceH_eq] at hk
 refine ⟨_, _, _, ?_, hk⟩
 intro w0 F0 m D p c F slots heap a w next Q hrel hev hh hfresh hnext
 obtain ⟨ps, hfv, hps, hpr⟩ := calleeM_spec hf (hev f)
 have hrun : (execOp a.eval o).run P w = .ok (.enter fid (ps ++ cl.args.map a.eval)) w := by
  have := hs.1 (ps ++ cl.args.map a.eval) w
  simp [execOp, ho, resolve, hc, hfv, Deferred.ofValue, invoke, this]
 have hsz : (ps ++ cl.args.map a.eval).size = (pre ++ evL sl cl.args.toList).length := by rw [Array.size_append, List.length_append, hps, evL_length]; simp
 have has : ∀ j (hj : j < (pre ++ evL sl cl.args.toList).length), Rep w p c F D (pre ++ evL sl cl.args.toList)[j] ((ps ++ cl.args.map a.eval).getD j undef) := fun j hj => by
  by_cases h1 : j < pre.length
  ·rw [List.getElem_append_left h1]
   have : (ps ++ cl.args.map a.eval).getD j undef = ps.getD j undef := by
    rw [Array.getD_eq_getD_getElem?, Array.getElem?_append_left (by omega), Array.getD_eq_getD_getElem?]
   rw [this]
   exact hpr j h1
  ·rw [List.getElem_append_right (by omega)]
   have hj' : j - pre.length < cl.args.toList.length := by rw [List.length_append, evL_length] at hj; omega
   have hj2 : j - pre.length < cl.args.size := by simpa using hj'
   rw [evL_at sl _ _ hj']
   have : (ps ++ cl.args.map a.eval).getD j undef = a.eval cl.args.toList[j - pre.length] := by
    rw [Array.getD_eq_getD_getElem?, Array.getElem?_append_right (by omega), hps]
    simp [hj2]
   rw [this]
   exact hev _
 generalize pre ++ evL sl cl.args.toList = as at *
 generalize ps ++ cl.args.map a.eval = us at *
 unfold Oper.wp
 rw [hrun]
 refine (hs.2 w (pA p acc) (cA c acc) F us (by rw [renVL_length]; exact hsz) (fun j hj => ?_) (blks_of hrel hh hnd' hlen').1 (fun g j hj => (hrel.fr g j hj).1)).mono ?_
 ·rw [renVL_at, hlen']
  exact renV_ok (has j (by rw [renVL_length] at hj; exact hj))
 ·rintro e w' ⟨x, p', c', F', rfl, hH, hF, hF2, hB, hown, _, hra, hR⟩
  obtain ⟨D', P', C', h1, h2, h3⟩ := Rel.backM (nx := nx) (blks_of hrel hh hnd' hlen').2 hrel (fun r hr => by obtain ⟨b, hb⟩ := hcl r hr; exact ⟨b, hh r b hb⟩) has hfresh hH hF hF2 hB hown hra
  exact hnext x w' D' P' C' F' h1 (h3 hR) h2
end
end
section
section
variable {P : Program} {o : Oper} {sl : Sl} {h : Hp} {nx : Nat} {k : Kt}
theorem ok_index {t : TypeId} {x y : Operand} (ho : o.op = .index t x y) (hk : opIndex P sl t x y k) : Is P o sl h nx k := by
 unfold opIndex at hk
 split at hk
 ·rename_i hu
  split at hk
  case h_2 => exact hk.elim
  rename_i s kk i hx hy
  obtain ⟨b, ⟨h0, hb⟩, hk⟩ := hk
  refine ⟨_, _, _, okQuiet fun w p c F D a hev => ⟨_, ?_, .ex _ _⟩, hk⟩
  have hx' := (hx ▸ hev x : Rep w p c F D _ _).ex_inv
  have hy' := (hy ▸ hev y : Rep w p c F D _ _).ex_inv
  simp [execOp, ho, hx', hy', Instr.index, asIntOf, run_underlying hu, h0, hb]
 ·rename_i n e hu
  split at hk
  case h_2 => exact hk.elim
  rename_i us kk i hx hy
  split at hk
  case h_2 => exact hk.elim
  rename_i hkd hone
  obtain ⟨hi, v, hv, hk⟩ := hk
  refine ⟨_, _, _, okQuiet fun w p c F D a hev => ⟨v, ?_, .ex _ _⟩, hk⟩
  have h1 : 1 = sizeT P e := Nat.eq_of_beq_eq_true hone
  have hx' := (hx ▸ hev x : Rep w p c F D _ _).ex_inv
  have hy' := (hy ▸ hev y : Rep w p c F D _ _).ex_inv
  have hso := (size_run (P := P) (w := w) (t := e) (by rw [← h1]; rfl)).1
  rw [← h1] at hso
  have hkf := kind_false (w := w) hkd
  have hpart : (part e us i.toNat).run P w = .ok v w := by simp [part, hkf, hv]
  simp [execOp, ho, hx', hy', Instr.index, asIntOf, run_underlying hu, hi, hso, hpart]
 ·exact hk.elim
theorem bnd_ok {sl : Sl} {d i : Int} {x : Option Operand} (hb : bndV sl d x = some i) {w : World} {p : Nat → Option Nat} {c : Nat → Nat} {F : Nat → Nat → Prop} {D : Nat → Prop} {a : Act} (hev : ∀ x, Rep w p c F D (ev sl x) (a.eval x)) :
  (x = none ∧ i = d) ∨ ∃ y kk, x = some y ∧ a.eval y = .int kk i := by
 unfold bndV at hb
 split at hb
 ·injection hb with hb; exact .inl ⟨rfl, hb.symm⟩
 ·rename_i y
  split at hb
  ·rename_i kk j hy
   injection hb with hb; subst hb
   exact .inr ⟨y, kk, rfl, (hy ▸ hev y : Rep w p c F D _ _).ex_inv⟩
  ·cases hb
theorem ok_slice {t : TypeId} {x : Operand} {lo hi mx : Option Operand} (ho : o.op = .slice t x lo hi mx) (hk : opSlice P sl h t x lo hi mx k) : Is P o sl h nx k := by
 unfold opSlice at hk
 split at hk
 ·rename_i hu
  split at hk
  case h_2 => exact hk.elim
  rename_i s hx
  split at hk
  case h_2 => exact hk.elim
  rename_i l u hl hh
  obtain ⟨⟨h0, h1, h2⟩, hk⟩ := hk
  refine ⟨_, _, _, okQuiet fun w p c F D a hev => ⟨_, ?_, .ex _ _⟩, hk⟩
  have hx' := (hx ▸ hev x : Rep w p c F D _ _).ex_inv
  have e1 : u.toNat ≤ s.size := by omega
  rcases bnd_ok hl hev with ⟨rfl, rfl⟩ | ⟨y, kk, rfl, hy⟩ <;> rcases bnd_ok hh hev with ⟨rfl, rfl⟩ | ⟨y2, kk2, rfl, hy2⟩
  ·simp [execOp, ho, hx', Instr.sliceAt, Instr.slice, run_underlying hu, Instr.sliceBounds]
  ·simp [execOp, ho, hx', hy2, Instr.sliceAt, Instr.slice, run_underlying hu, Instr.sliceBounds, Instr.sliceBound, asIntOf, h1, h2]
  ·simp [execOp, ho, hx', hy, Instr.sliceAt, Instr.slice, run_underlying hu, Instr.sliceBounds, Instr.sliceBound, asIntOf, h0, h1]
  ·have e2 : 0 ≤ u := by omega
   have e3 : (u.toNat : Int) = u := by omega
   simp [execOp, ho, hx', hy, hy2, Instr.sliceAt, Instr.slice, run_underlying hu, Instr.sliceBounds, Instr.sliceBound, asIntOf, h0, h1, h2, e2, e3]
 ·rename_i e hu
  have bounds : ∀ {w : World} {p : Nat → Option Nat} {c : Nat → Nat} {F : Nat → Nat → Prop} {D : Nat → Prop} {a : Act} {l u : Int} {n cap : Nat}, (∀ x, Rep w p c F D (ev sl x) (a.eval x)) → bndV sl 0 lo = some l → bndV sl n hi = some u → 0 ≤ l → l ≤ u → u ≤ n → n ≤ cap →
    (Instr.sliceBounds true n cap (lo.map a.eval) (hi.map a.eval) none).run P w = .ok (l.toNat, u.toNat, cap) w := by
   intro w p c F D a l u n cap hev hl hh h0 h1 h2 h3
   have e1 : u ≤ (cap : Int) := by omega
   rcases bnd_ok hl hev with ⟨rfl, rfl⟩ | ⟨y, kk, rfl, hy⟩ <;> rcases bnd_ok hh hev with ⟨rfl, rfl⟩ | ⟨y2, kk2, rfl, hy2⟩
   ·simp [Instr.sliceBounds]
   ·simp [hy2, Instr.sliceBounds, Instr.sliceBound, asIntOf, h1, e1]
   ·simp [hy, Instr.sliceBounds, Instr.sliceBound, asIntOf, h0, h1]
   ·have e2 : 0 ≤ u := by omega
    have e3 : (u.toNat : Int) = u := by omega
    simp [hy, hy2, Instr.sliceBounds, Instr.sliceBound, asIntOf, h0, h1, e1, e2, e3]
  have runS : ∀ {w : World} {a : Act} {l u : Int} {n cap : Nat} {base : Option Addr}, a.eval x = .slice base n cap → (Instr.sliceBounds true n cap (lo.map a.eval) (hi.map a.eval) none).run P w = .ok (l.toNat, u.toNat, cap) w → mx = none → (sizeOf e).run P w = .ok (sizeT P e) w →
    (execOp a.eval o).run P w = .ok (.value (.slice (if cap = l.toNat then base else base.map (·.add (l.toNat * sizeT P e))) (u.toNat - l.toNat) (cap - l.toNat))) w := by
   intro w a l u n cap base hx hb hm hs
   subst hm
   simp [execOp, ho, hx, Instr.sliceAt, Instr.slice, run_underlying hu, hb, hs]
  -- a window, cut
  have cut : ∀ {w : World} {p : Nat → Option Nat} {c : Nat → Nat} {F : Nat → Nat → Prop} {D : Nat → Prop} {g q kk n : Nat} {cs : List AV} {uu : Nat → Value} {l u : Int}, 0 ≤ l → l ≤ u → u ≤ n → n ≤ kk → Win w p c F g q cs uu →
    Rep w p c F D (.vs (u.toNat - l.toNat) (takeL cs (mulS l.toNat (sizeT P e)) (mulS (u.toNat - l.toNat) (sizeT P e)))) (.slice (if kk = l.toNat then some ⟨g, q, none⟩ else (some (⟨g, q, none⟩ : Addr)).map (·.add (l.toNat * sizeT P e))) (u.toNat - l.toNat) (kk - l.toNat)) := by
   intro w p c F D g q kk n cs uu l u h0 h1 h2 h3 hw
   by_cases hc : kk = l.toNat
   ·rw [if_pos hc]
    have e1 : u.toNat - l.toNat = 0 := by omega
    have e2 : takeL cs (mulS l.toNat (sizeT P e)) (mulS 0 (sizeT P e)) = [] := by simp [mulS_eq, takeL]
    rw [e1, e2]
    exact .vs _ 0 [] g q _ (fun _ => undef) (by omega) (fun j hj => by simp at hj) fun j hj => by simp at hj
   ·rw [if_neg hc]
    have hw' := hw.take (mulS l.toNat (sizeT P e)) (mulS (u.toNat - l.toNat) (sizeT P e))
    simp only [Option.map_some, Addr.add_lit]
    rw [← mulS_eq l.toNat]
    exact .vs _ _ _ g _ _ _ (by omega) hw'.1 hw'.2
  split at hk
  case h_3 => exact hk.elim
  ·rename_i hpos
   have hso := fun w => (size_run (P := P) (w := w) hpos).1
   split at hk
   case h_4 => exact hk.elim
   ·rename_i n cs hx
    split at hk
    case h_2 => exact hk.elim
    rename_i l u hl hh
    obtain ⟨⟨h0, h1, h2, h3⟩, hk⟩ := hk
    refine ⟨_, _, _, okQuiet fun w p c F D a hev => ?_, hk⟩
    rcases (hx ▸ hev x : Rep w p c F D _ _).vs_inv with ⟨rfl, rfl, a0, hxv⟩ | ⟨g, q, kk, uu, hn, hxv, hw⟩
    ·refine ⟨_, runS hxv (bounds hev hl hh h0 h1 h2 (Nat.le_refl _)) rfl (hso w), ?_⟩
     have e1 : l.toNat = 0 := by omega
     have e2 : u.toNat = 0 := by omega
     rw [e1, e2]
     have : takeL ([] : List AV) (mulS 0 (sizeT P e)) (mulS (0 - 0) (sizeT P e)) = [] := by simp [mulS_eq, takeL]
     rw [this]; exact .vnil _
    ·exact ⟨_, runS hxv (bounds hev hl hh h0 h1 h2 hn) rfl (hso w), cut h0 h1 h2 hn hw⟩
   ·rename_i r n hx
    split at hk
    case h_2 => exact hk.elim
    rename_i cs el fz hb
    split at hk
    case h_2 => exact hk.elim
    rename_i l u hl hh
    obtain ⟨⟨h0, h1, h2, h3⟩, hk⟩ := hk
    refine ⟨_, _, _, ?_, hk⟩
    intro w0 F0 m D p c F slots heap a w next Q hrel hev hh' hfresh hnext
    obtain ⟨F1, g1, g2, g3, g4⟩ := hrel.freezes_ [r] (viewF_of hh')
    obtain ⟨hd, hn, hxv⟩ := (hx ▸ hev x : Rep w p c F D _ _).sl_inv
    have hB := (hrel.live r _ (hh' r _ hb)).2
    refine wp_value (runS hxv (bounds hev hl hh h0 h1 h2 hn) rfl (hso w)) (hnext _ w D p c F1 g1 ?_ fun i => ⟨.inl, fun h => by rcases h with h | h; exact h; omega⟩)
    cases hp : p r with
    | none =>
     unfold BlkOk at hB
     rw [hp] at hB
     obtain ⟨q1, q2, _⟩ := hB
     simp only at q1
     subst q1
     have e0 : n = 0 := by omega
     have e1 : l.toNat = 0 := by omega
     have e2 : u.toNat = 0 := by omega
     rw [e1, e2, q2]
     have : takeL ([] : List AV) (mulS 0 (sizeT P e)) (mulS (0 - 0) (sizeT P e)) = [] := by simp [mulS_eq, takeL]
     rw [this]; exact .vnil _
    | some g =>
     obtain ⟨us, t, frz, k1, k2, k3, k4, k5⟩ := hB.at hp
     refine cut (uu := fun j => us.getD j undef) h0 h1 h2 hn ⟨fun j hj => ⟨by rw [Nat.zero_add]; exact g4 r (by simp) _ hb g hp j hj, by rw [Nat.zero_add]; exact cell_at k1 (by simp only at k3; omega)⟩, fun j hj => ?_⟩
     exact (k4 j hj).mono ⟨fun i hi => hi.elim, g2, fun _ _ _ => rfl⟩
   ·rename_i n cs hx
    split at hk
    case h_2 => exact hk.elim
    rename_i l u hl hh
    obtain ⟨⟨h0, h1, h2, h3⟩, hk⟩ := hk
    refine ⟨_, _, _, okQuiet fun w p c F D a hev => ?_, hk⟩
    rcases (hx ▸ hev x : Rep w p c F D _ _).vf_inv with ⟨rfl, rfl, a0, hxv⟩ | ⟨g, q, uu, hxv, hw⟩
    ·refine ⟨_, runS hxv (bounds hev hl hh h0 h1 h2 (Nat.le_refl _)) rfl (hso w), ?_⟩
     have e1 : l.toNat = 0 := by omega
     have e2 : u.toNat = 0 := by omega
     rw [e1, e2]
     have : takeL ([] : List AV) (mulS 0 (sizeT P e)) (mulS (0 - 0) (sizeT P e)) = [] := by simp [mulS_eq, takeL]
     rw [this]; exact .vnil _
    ·exact ⟨_, runS hxv (bounds hev hl hh h0 h1 h2 (Nat.le_refl _)) rfl (hso w), cut h0 h1 h2 (Nat.le_refl _) hw⟩
  ·rename_i mo hpos
   have hso := fun w => (size_run (P := P) (w := w) hpos).1
   split at hk
   case h_2 => exact hk.elim
   rename_i ho' kk u hmo
   split at hk
   case h_2 => exact hk.elim
   rename_i kk2 u' hho
   have runM : ∀ {w : World} {p : Nat → Option Nat} {c : Nat → Nat} {F : Nat → Nat → Prop} {D : Nat → Prop} {a : Act} {n cap : Nat} {base : Option Addr}, (∀ x, Rep w p c F D (ev sl x) (a.eval x)) → a.eval x = .slice base n cap → 0 ≤ u → u = u' → u ≤ cap →
     (execOp a.eval o).run P w = .ok (.value (.slice base u.toNat u.toNat)) w := by
    intro w p c F D a n cap base hev hx h0 h1 h2
    subst h1
    have e1 := (hmo ▸ hev mo : Rep w p c F D _ _).ex_inv
    have e2 := (hho ▸ hev ho' : Rep w p c F D _ _).ex_inv
    have e3 : (u.toNat : Int) = u := by omega
    have e4 : base.map (fun a => Addr.add a 0) = base := by cases base <;> simp [Addr.add]
    simp [execOp, ho, hx, e1, e2, Instr.sliceAt, Instr.slice, run_underlying hu, Instr.sliceBounds, Instr.sliceBound, asIntOf, h0, h2, e3, hso, e4]
   have cutF : ∀ {w : World} {p : Nat → Option Nat} {c : Nat → Nat} {F : Nat → Nat → Prop} {D : Nat → Prop} {g q : Nat} {cs : List AV} {uu : Nat → Value}, Win w p c F g q cs uu →
     Rep w p c F D (.vf u.toNat (takeL cs 0 (mulS u.toNat (sizeT P e)))) (.slice (some ⟨g, q, none⟩) u.toNat u.toNat) := by
    intro w p c F D g q cs uu hw
    have hw' := hw.take 0 (mulS u.toNat (sizeT P e))
    exact .vf _ _ _ g q _ hw'.1 hw'.2
   have cut0 : ∀ {w : World} {p : Nat → Option Nat} {c : Nat → Nat} {F : Nat → Nat → Prop} {D : Nat → Prop} {a0 : Option Addr}, u.toNat = 0 → Rep w p c F D (.vf u.toNat (takeL [] 0 (mulS u.toNat (sizeT P e)))) (.slice a0 u.toNat u.toNat) := by
    intro w p c F D a0 e1
    rw [e1]
    have : takeL ([] : List AV) 0 (mulS 0 (sizeT P e)) = [] := by simp [takeL]
    rw [this]; exact .fnil _
   split at hk
   ·rename_i hx
    obtain ⟨⟨h0, h1⟩, hk⟩ := hk
    refine ⟨_, _, _, okQuiet fun w p c F D a hev => ⟨_, runM hev (hx ▸ hev x : Rep w p c F D _ _).ex_inv (by omega) (by omega) (by omega), ?_⟩, hk⟩
    subst h0
    exact .ex _ _
   ·rename_i n cs hx
    obtain ⟨⟨h0, h1, h2, h3⟩, hk⟩ := hk
    refine ⟨_, _, _, okQuiet fun w p c F D a hev => ?_, hk⟩
    rcases (hx ▸ hev x : Rep w p c F D _ _).vf_inv with ⟨rfl, rfl, a0, hxv⟩ | ⟨g, q, uu, hxv, hw⟩
    ·exact ⟨_, runM hev hxv h0 h1 (by omega), cut0 (by omega)⟩
    ·exact ⟨_, runM hev hxv h0 h1 (by omega), cutF hw⟩
   ·rename_i n cs hx
    obtain ⟨⟨h0, h1, h2, h3⟩, hk⟩ := hk
    refine ⟨_, _, _, okQuiet fun w p c F D a hev => ?_, hk⟩
    rcases (hx ▸ hev x : Rep w p c F D _ _).vs_inv with ⟨rfl, rfl, a0, hxv⟩ | ⟨g, q, kc, uu, hn, hxv, hw⟩
    ·exact ⟨_, runM hev hxv h0 h1 (by omega), cut0 (by omega)⟩
    ·exact ⟨_, runM hev hxv h0 h1 (by omega), cutF hw⟩
   ·rename_i r n hx
    split at hk
    case h_2 => exact hk.elim
    rename_i cs el fz hb
    obtain ⟨⟨h0, h1, h2, h3⟩, hk⟩ := hk
    refine ⟨_, _, _, ?_, hk⟩
    intro w0 F0 m D p c F slots heap a w next Q hrel hev hh' hfresh hnext
    obtain ⟨F1, g1, g2, g3, g4⟩ := hrel.freezes_ [r] (viewF_of hh')
    obtain ⟨hd, hn, hxv⟩ := (hx ▸ hev x : Rep w p c F D _ _).sl_inv
    have hB := (hrel.live r _ (hh' r _ hb)).2
    refine wp_value (runM hev hxv h0 h1 (by omega)) (hnext _ w D p c F1 g1 ?_ fun i => ⟨.inl, fun h => by rcases h with h | h; exact h; omega⟩)
    cases hp : p r with
    | none =>
     unfold BlkOk at hB
     rw [hp] at hB
     obtain ⟨q1, q2, _⟩ := hB
     simp only at q1
     subst q1
     exact cut0 (by omega)
    | some g =>
     obtain ⟨us, t, frz, k1, k2, k3, k4, k5⟩ := hB.at hp
     refine cutF (uu := fun j => us.getD j undef) ⟨fun j hj => ⟨by rw [Nat.zero_add]; exact g4 r (by simp) _ hb g hp j hj, by rw [Nat.zero_add]; exact cell_at k1 (by simp only at k3; omega)⟩, fun j hj => ?_⟩
     exact (k4 j hj).mono ⟨fun i hi => hi.elim, g2, fun _ _ _ => rfl⟩
   ·exact hk.elim
 ·rename_i n e hu
  split at hk
  case h_2 => exact hk.elim
  rename_i r hx
  split at hk
  case h_2 => exact hk.elim
  rename_i cs el fz hpos hb
  have hso := fun w => (size_run (P := P) (w := w) hpos).1
  obtain ⟨⟨hn0, hn⟩, hk⟩ := hk
  refine ⟨_, _, _, ?_, hk⟩
  intro w0 F0 m D p c F slots heap a w next Q hrel hev hh' hfresh hnext
  obtain ⟨F1, g1, g2, g3, g4⟩ := hrel.freezes_ [r] (viewF_of hh')
  obtain ⟨g, hd, hp, hxv⟩ := (hx ▸ hev x : Rep w p c F D _ _).ptr_inv
  have hB := (hrel.live r _ (hh' r _ hb)).2
  have hn1 : ¬ n = 0 := by omega
  have hrun : (execOp a.eval o).run P w = .ok (.value (.slice (some ⟨g, 0, none⟩) n n)) w := by
   simp [execOp, ho, hxv, Instr.sliceAt, Instr.sureAddr, run_underlying hu, Instr.sliceBounds, hso, Addr.add]
  refine wp_value hrun (hnext _ w D p c F1 g1 ?_ fun i => ⟨.inl, fun h => by rcases h with h | h; exact h; omega⟩)
  obtain ⟨us, t, frz, k1, k2, k3, k4, k5⟩ := hB.at hp
  have hwin : Win w p c F1 g 0 cs (fun j => us.getD j undef) := ⟨fun j hj => ⟨by rw [Nat.zero_add]; exact g4 r (by simp) _ hb g hp j hj, by rw [Nat.zero_add]; exact cell_at k1 (by simp only at k3; omega)⟩, fun j hj => (k4 j hj).mono ⟨fun i hi => hi.elim, g2, fun _ _ _ => rfl⟩⟩
  have hw' := hwin.take 0 (mulS n (sizeT P e))
  exact .vs _ _ _ g 0 n _ (Nat.le_refl _) hw'.1 hw'.2
 ·exact hk.elim
end
end
section
theorem fold_set (off : Nat) : ∀ (cs : List Value) (n : Nat) (us : Array Value), (cs.zipIdx n).foldl (fun (us : Array Value) (x : Value × Nat) => us.setIfInBounds (off + x.2) x.1) us = setV us (off + n) cs
 | [], n, us => rfl
 | v :: cs, n, us => by
  rw [List.zipIdx_cons, List.foldl_cons, fold_set off cs (n + 1)]
  rfl
section
variable {w : World} {D : Nat → Prop} {p : Nat → Option Nat} {c : Nat → Nat} {F : Nat → Nat → Prop} {P : Program} {sl : Sl} {a : Act}
theorem fill_struct (fs : Array Field) (places : Array (Nat × Nat)) (hpl : ∀ (i : Nat) (f : Field), fs[i]? = some f → places[i]? = some (f.offset, sizeT P f.type)) (hev : ∀ x, Rep w p c F D (ev sl x) (a.eval x)) :
  ∀ (parts : List (Nat × Operand)) (cs cs' : List AV) (us : Array Value), fillL P fs cs (evParts sl parts) = some cs' → us.size = cs.length → (∀ j (h : j < cs.length), Rep w p c F D cs[j] (us.getD j undef)) →
   ∃ us', Instr.fill (places[·]?) us (parts.map fun x => (x.1, a.eval x.2)) = some us' ∧ us'.size = cs'.length ∧ ∀ j (h : j < cs'.length), Rep w p c F D cs'[j] (us'.getD j undef)
 | [], cs, cs', us, hf, hs, hr => by
  simp only [evParts, fillL] at hf; injection hf with hf; subst hf
  exact ⟨us, rfl, hs, hr⟩
 | (i, x) :: parts, cs, cs', us, hf, hs, hr => by
  simp only [evParts, fillL] at hf
  split at hf
  case h_2 => cases hf
  rename_i f hfi
  split at hf
  case h_1 => cases hf
  rename_i hu
  split at hf
  case h_2 => cases hf
  rename_i h1 h2
  have e1 : (ev sl x).cells.length = sizeT P f.type := Nat.eq_of_beq_eq_true h1
  have e2 : f.offset + (ev sl x).cells.length ≤ cs.length := Nat.le_of_ble_eq_true h2
  obtain ⟨c1, c2⟩ := (hev x).cells (fun e => by rw [e] at hu; cases hu) (fun K e => by rw [e] at hu; cases hu)
  have hlen : (a.eval x).cells.toList.length = (ev sl x).cells.length := by simpa using c1
  have e0 : ∀ j, (a.eval x).cells.toList.getD j undef = (a.eval x).cells.getD j undef := fun j => by simp [List.getD]
  obtain ⟨us', k1, k2, k3⟩ := fill_struct fs places hpl hev parts (setL cs f.offset (ev sl x).cells) cs' (setV us f.offset (a.eval x).cells.toList) hf (by rw [setV_size, setL_length]; exact hs)
   (setRep _ _ cs us f.offset hlen (Nat.le_of_eq hs.symm) e2 (fun j hj => by rw [e0]; exact c2 j hj) hr)
  refine ⟨us', ?_, k2, k3⟩
  have hfold : ((a.eval x).cells.zipIdx.foldl (fun (cs : Array Value) (x : Value × Nat) => match x with | (c, j) => cs.setIfInBounds (f.offset + j) c) us) = setV us f.offset (a.eval x).cells.toList := by
   have := fold_set f.offset (a.eval x).cells.toList 0 us
   rw [Nat.add_zero] at this
   rw [← this, ← Array.foldl_toList, Array.toList_zipIdx]
  simp only [List.map_cons, Instr.fill, hpl i f hfi]
  rw [if_neg (by
   simp only [bne_iff_ne, ne_eq, Bool.or_eq_true, decide_eq_true_eq, not_or, Nat.not_lt, Classical.not_not]
   refine ⟨by rw [c1, e1], by rw [c1, hs]; omega⟩)]
  rw [hfold]; exact k1
end
section
variable {P : Program} {o : Oper} {sl : Sl} {h : Hp} {nx : Nat} {k : Kt}
theorem ok_build {t : TypeId} {ps : Array (Nat × Operand)} (ho : o.op = .build t ps) (hk : opBuild P sl t ps.toList k) : Is P o sl h nx k := by
 unfold opBuild at hk
 split at hk
 case h_2 => exact hk.elim
 rename_i fs z hu hz
 split at hk
 case h_2 => exact hk.elim
 rename_i cs hall hf
 rw [forceCs_eq, mkAggK_eq] at hk
 refine ⟨_, _, _, okQuiet fun w p c F D a hev => ?_, hk⟩
 have hi : ∃ i, P.info? t = some i ∧ i.zero = some z := by
  unfold zeroT at hz
  cases hi : P.info? t with
  | none => rw [hi] at hz; cases hz
  | some i => rw [hi] at hz; exact ⟨i, rfl, hz⟩
 obtain ⟨i, hi, hiz⟩ := hi
 have hpl : ∀ (l : List Field), l.all (fun f => Nat.blt 0 (sizeT P f.type)) = true → l.mapM (fun f => (P.info? f.type).map fun i => (f.offset, i.size)) = some (l.map fun f => (f.offset, sizeT P f.type)) := by
  intro l
  induction l with
  | nil => intro _; rfl
  | cons f l ih =>
   intro hl
   simp only [List.all_cons, Bool.and_eq_true] at hl
   obtain ⟨j, hj, hjs, _⟩ := info_of hl.1
   rw [List.mapM_cons, hj, ih hl.2]
   simp [hjs]
 obtain ⟨c1, c2⟩ := (Rep.ex (w := w) (p := p) (c := c) (F := F) D z).cells (by simp) (fun K h => by cases h)
 obtain ⟨us', k1, k2, k3⟩ := fill_struct fs (fs.toList.map fun f => (f.offset, sizeT P f.type)).toArray (fun i f hf => by
  have : fs.toList[i]? = some f := by simpa using hf
  simp [this]) hev ps.toList _ cs z.cells hf c1 c2
 have hb : P.built t (ps.map fun x => (x.1, a.eval x.2)).toList = some us' := by
  unfold Program.built
  rw [hi, hu]
  simp only
  rw [hiz, hpl fs.toList hall]
  simpa using k1
 have := run_build (P := P) w t (ps.map fun x => (x.1, a.eval x.2)) us' hb
 exact ⟨_, by simp only [execOp, ho, Sem.run_bind, this, Result.andThen_ok, Sem.run_pure], .mk k2 k3⟩
end
section
variable {w : World} {E : Nat → Prop} {p : Nat → Option Nat} {c : Nat → Nat} {F : Nat → Nat → Prop} {P : Program} {sl : Sl} {a : Act}
theorem fill_row (size : Nat) : ∀ (parts : List (Nat × Operand)) (i : Nat) (pre : List AV) (us : Array Value), partsOk size i (evParts sl parts) = true → us.size = (i + parts.length) * size → pre.length = i * size →
  (∀ x ∈ parts, isUnk (ev sl x.2) = false → (a.eval x.2).cells.size = (ev sl x.2).cells.length ∧ ∀ j (h : j < (ev sl x.2).cells.length), Rep w p c F E (ev sl x.2).cells[j] ((a.eval x.2).cells.getD j undef)) →
  (∀ j (h : j < pre.length), Rep w p c F E pre[j] (us.getD j undef)) →
  ∃ us', Instr.fill (fun i => some (i * size, size)) us (parts.map fun x => (x.1, a.eval x.2)) = some us' ∧ us'.size = us.size ∧ (pre ++ partCells (evParts sl parts)).length = us.size ∧
   ∀ j (h : j < (pre ++ partCells (evParts sl parts)).length), Rep w p c F E (pre ++ partCells (evParts sl parts))[j] (us'.getD j undef)
 | [], i, pre, us, hp, hs, hl, hc, hr => by
  refine ⟨us, rfl, rfl, by simp [evParts, partCells, hl]; simp at hs; exact hs.symm, fun j hj => ?_⟩
  simp only [evParts, partCells, List.append_nil] at hj ⊢
  exact hr j hj
 | (q, x) :: parts, i, pre, us, hp, hs, hl, hc, hr => by
  simp only [evParts, partsOk] at hp
  split at hp
  case h_1 => cases hp
  rename_i hu
  split at hp
  case h_2 => cases hp
  rename_i h1 h2
  obtain rfl : i = q := Nat.eq_of_beq_eq_true h1
  have e1 : (ev sl x).cells.length = size := Nat.eq_of_beq_eq_true h2
  obtain ⟨c1, c2⟩ := hc (i, x) (by simp) hu
  simp only at c1 c2
  have hlen : (a.eval x).cells.toList.length = (ev sl x).cells.length := by simpa using c1
  have e0 : ∀ j, (a.eval x).cells.toList.getD j undef = (a.eval x).cells.getD j undef := fun j => by simp [List.getD]
  have hus : i * size + size ≤ us.size := by
   rw [hs, List.length_cons, ← Nat.succ_mul]; exact Nat.mul_le_mul_right _ (by omega)
  have hr1 : ∀ j (h : j < (pre ++ (ev sl x).cells).length), Rep w p c F E (pre ++ (ev sl x).cells)[j] ((setV us (i * size) (a.eval x).cells.toList).getD j undef) := by
   intro j hj
   rw [List.length_append, hl, e1] at hj
   rw [setV_getD _ _ _ _ (by omega)]
   by_cases h : j < i * size
   ·rw [if_neg (by omega), List.getElem_append_left (by omega)]
    exact hr j (by omega)
   ·rw [if_pos (by omega), List.getElem_append_right (by omega), e0]
    have e5 : (a.eval x).cells.getD (j - i * size) undef = (a.eval x).cells.getD (j - pre.length) undef := by rw [hl]
    rw [e5]
    exact c2 (j - pre.length) (by omega)
  obtain ⟨us', k1, k2, k3, k4⟩ := fill_row size parts (i + 1) (pre ++ (ev sl x).cells) (setV us (i * size) (a.eval x).cells.toList) hp (by rw [setV_size, hs, List.length_cons]; congr 1; omega) (by rw [List.length_append, hl, e1, Nat.succ_mul])
   (fun y hy => hc y (List.mem_cons_of_mem _ hy)) hr1
  have hfold : ((a.eval x).cells.zipIdx.foldl (fun (cs : Array Value) (x : Value × Nat) => match x with | (c, j) => cs.setIfInBounds (i * size + j) c) us) = setV us (i * size) (a.eval x).cells.toList := by
   have := fold_set (i * size) (a.eval x).cells.toList 0 us
   rw [Nat.add_zero] at this
   rw [← this, ← Array.foldl_toList, Array.toList_zipIdx]
  rw [setV_size] at k2 k3
  refine ⟨us', ?_, k2, ?_, ?_⟩
  ·simp only [List.map_cons, Instr.fill]
   rw [if_neg (by
    simp only [bne_iff_ne, ne_eq, Bool.or_eq_true, decide_eq_true_eq, not_or, Nat.not_lt, Classical.not_not]
    refine ⟨by rw [c1, e1], by rw [c1]; omega⟩)]
   rw [hfold]; exact k1
  ·have hcat : pre ++ partCells (evParts sl ((i, x) :: parts)) = pre ++ (ev sl x).cells ++ partCells (evParts sl parts) := by simp [evParts, partCells]
   rw [hcat]; exact k3
  ·have hcat : pre ++ partCells (evParts sl ((i, x) :: parts)) = pre ++ (ev sl x).cells ++ partCells (evParts sl parts) := by simp [evParts, partCells]
   rw [hcat]; exact k4
end
section
variable {P : Program} {o : Oper} {sl : Sl} {h : Hp} {nx : Nat} {k : Kt}
theorem partsPure_ok : ∀ {parts : List (Nat × Operand)}, partsPure (evParts sl parts) = true → ∀ x ∈ parts, pureV (ev sl x.2) = true
 | [], _, x, hx => by cases hx
 | (i, y) :: parts, hp, x, hx => by
  simp only [evParts, partsPure, Bool.and_eq_true] at hp
  rcases List.mem_cons.1 hx with e | e
  ·subst e; exact hp.1
  ·exact partsPure_ok hp.2 x e
theorem ok_buildSlice {t : TypeId} {n : Nat} {ps : Array (Nat × Operand)} (ho : o.op = .buildSlice t n ps) (hk : opBuildSlice P sl nx t n ps.toList k) : Is P o sl h nx k := by
 unfold opBuildSlice at hk
 split at hk
 case h_2 => exact hk.elim
 rename_i e hu
 split at hk
 case h_2 => exact hk.elim
 rename_i z hok hlen hn hsz hpos hz
 rw [forceCs_eq, forceB_eq] at hk
 obtain ⟨fz, hk⟩ := hk
 obtain ⟨i, hi, his, hib⟩ := info_of hpos
 have hiz : i.zero = some z := by unfold zeroT at hz; rw [hi] at hz; exact hz
 have hlen' : ps.toList.length = n := Nat.eq_of_beq_eq_true hlen
 have hn' : n ≤ 1000 := Nat.le_of_ble_eq_true hn
 have hsz' : sizeT P e ≤ 1000 := Nat.le_of_ble_eq_true hsz
 have hspos : 0 < sizeT P e := Nat.pos_of_ne_zero (size_run (P := P) (w := default) hpos).2
 have hsmall : n * i.size ≤ 1000 * 1000 := by rw [his]; exact Nat.mul_le_mul hn' hsz'
 refine ⟨_, _, _, okNew (.inr ⟨_, rfl⟩) (isOb_el (by simp)) fun w p c F D a hev hl => ?_, hk⟩
 have hE : ∀ x ∈ ps.toList, isUnk (ev sl x.2) = false → (a.eval x.2).cells.size = (ev sl x.2).cells.length ∧ ∀ j (h : j < (ev sl x.2).cells.length), Rep w p c F (if partsPure (evParts sl ps.toList) then noD else D) (ev sl x.2).cells[j] ((a.eval x.2).cells.getD j undef) := by
  intro x hx hu
  obtain ⟨c1, c2⟩ := (hev x.2).cellsP hu
  refine ⟨c1, fun j hj => ?_⟩
  have h2 := c2 j hj
  cases hp : partsPure (evParts sl ps.toList) with
  | true => rw [partsPure_ok hp x hx] at h2; exact h2
  | false => exact h2.pu
 obtain ⟨us', k1, k2, k3, k4⟩ := fill_row (sizeT P e) ps.toList 0 [] ((Array.range (n * i.size)).map (z.cells[· % z.cells.size]!)) hok (by simp only [Array.size_map, Array.size_range, Nat.zero_add]; rw [hlen', his]) (by simp) hE (fun j hj => by simp at hj)
 simp only [List.nil_append] at k3 k4
 have hus : us'.size = n * sizeT P e := by rw [k2]; simp [his]
 have hrun : (Instr.buildSlice t n (ps.map fun x => (x.1, a.eval x.2))).run P w = .ok (.slice (some ⟨w.heap.size, 0, none⟩) n n) (w.alloc (.cells us' e)) := by
  rcases Nat.eq_zero_or_pos n with h0 | h0
  ·subst h0
   have hps : ps = #[] := by
    apply Array.ext'
    simpa using List.eq_nil_of_length_eq_zero hlen'
   subst hps
   have hu0 : us' = #[] := Array.eq_empty_of_size_eq_zero (by rw [hus, Nat.zero_mul])
   subst hu0
   have e0 : ∀ (f : Nat → Value), Array.map f (Array.range 0) = #[] := fun f => Array.eq_empty_of_size_eq_zero (by simp)
   simp [Instr.buildSlice, run_underlying hu, sizeOf, typeInfo, hi, Instr.fill, newRow, e0]
  ·refine run_buildSlice w t e n _ us' i z hu hi hiz (by omega) (by rw [his]; exact Nat.pos_iff_ne_zero.1 (Nat.mul_pos h0 hspos)) ?_
   rw [his] at k1 ⊢
   simpa using k1
 exact ⟨w.alloc (.cells us' e), us', e, (0, 0), n, by simp only [execOp, ho, Sem.run_bind, hrun, Result.andThen_ok, Sem.run_pure], below_alloc w _, heap_alloc_new w _, by simp, by rw [k3, k2]; exact Nat.le_refl _, k4,
  (fun e' he => by injection he with he; subst he; exact ⟨rfl, hus, by omega⟩), (fun n' hn' => by injection hn' with _ hn'; omega)⟩
theorem ok_copy {cl : Call} {d x : Operand} {t tx : TypeId} {h : Hp} {nx : Nat} {k : Kt} {o : Oper} (ho : o.op = .call cl) (hc : cl.callee = .builtin .copy) (ha : cl.args.toList = [d, x]) (ht : cl.argTypes.toList = [t, tx])
  (hk : opCopy P sl h t tx d x k) : Is P o sl h nx k := by
 have ha' : cl.args = #[d, x] := by rw [← Array.toList_inj]; exact ha
 have ht' : cl.argTypes = #[t, tx] := by rw [← Array.toList_inj]; exact ht
 unfold opCopy at hk
 split at hk
 case h_2 => exact hk.elim
 rename_i e r n b hu hux hd hx
 split at hk
 case h_2 => exact hk.elim
 rename_i cs e' pu hb
 split at hk
 case h_2 => exact hk.elim
 rename_i hee hone
 obtain rfl : e = e' := Nat.eq_of_beq_eq_true hee
 have h1 : 1 = sizeT P e := Nat.eq_of_beq_eq_true hone
 obtain ⟨hcl, hk⟩ := hk
 refine ⟨_, _, _, ?_, hk⟩
 intro w0 F0 m D p c F slots heap a w next Q hrel hev hh hfresh hnext
 have hso := (size_run (P := P) (w := w) (t := e) (by rw [← h1]; rfl)).1
 rw [← h1] at hso
 obtain ⟨hdr, hn, hsv⟩ := (hd ▸ hev d : Rep w p c F D _ _).sl_inv
 have hxv := (hx ▸ hev x : Rep w p c F D _ _).ex_inv
 have hlook := hh r _ hb
 have hB := (hrel.live r _ hlook).2
 have hbl : (bytesA b.data.toList).length = b.size := by simp [bytesA]
 have hnl : ((bytesA b.data.toList).take n ++ cs.drop b.size).length = n := by rw [List.length_append, List.length_take, List.length_drop, hbl]; omega
 -- what is copied
 obtain ⟨L, hL⟩ : ∃ L : List Value, L = ((b.extract 0 (Nat.min b.size n)).data.map fun b => Value.int .u8 b.toNat).toList := ⟨_, rfl⟩
 have hmin : Nat.min b.size n = min b.size n := rfl
 have hLl : L.length = min b.size n := by
  rw [hL, hmin]; simp [ByteArray.size_extract]
  try omega
 have hLat : ∀ j, j < min b.size n → L.getD j undef = .int .u8 (b.data.toList.getD j 0).toNat := by
  intro j hj
  have hj2 : j < b.data.size := by have : b.data.size = b.size := rfl; omega
  rw [hL, hmin]
  have e3 : j < min (min b.size n) b.data.size - 0 := by have : b.data.size = b.size := rfl; omega
  simp [List.getD, ByteArray.data_extract, Array.getElem?_extract, hj2, e3]
  rw [List.getElem?_take_of_lt hj]
  have e4 : b.data[j]? = some b.data[j] := Array.getElem?_eq_getElem hj2
  simp [e4]
 have hrunc : ∀ (w' : World), (match (p r).map fun g => (⟨g, 0, none⟩ : Addr) with | some ad => storeCells ad L 0 | none => pure ()).run P w = .ok () w' → (execOp a.eval o).run P w = .ok (.value (.int .i64 (min b.size n : Nat))) w' := by
  intro w' hst
  rw [hL] at hst
  cases hp : p r with
  | none =>
   rw [hp] at hst hsv
   simp only [Option.map_none] at hst hsv
   simp at hst; subst hst
   simp [execOp, ho, resolve, hc, ha', ht', invoke, builtin, Builtin.copy_, run_underlying hu, hsv, hxv, Builtin.lenOf, Builtin.firstCells, hso, goInt, hmin]
  | some g =>
   rw [hp] at hst hsv
   simp only [Option.map_some] at hst hsv
   simp [execOp, ho, resolve, hc, ha', ht', invoke, builtin, Builtin.copy_, run_underlying hu, hsv, hxv, Builtin.lenOf, Builtin.firstCells, hso, goInt, hmin] at hst ⊢
   rw [hst]
   simp
 cases hp : p r with
 | none =>
  unfold BlkOk at hB
  rw [hp] at hB
  obtain ⟨q1, q2, _⟩ := hB
  simp only at q1
  subst q1
  have hn0 : n = 0 := by simpa using hcl.symm
  have hr := hrunc w (by rw [hp]; rfl)
  refine wp_value hr (hnext _ w D p c F (hrel.weaken (fun t v h => .inr h) fun i b' hi => ?_) (.ex _ _) fun i => ⟨.inl, fun h => by rcases h with h | h; exact h; omega⟩)
  rw [List.cons_append, look_cons] at hi
  by_cases e1 : r = i
  ·subst e1
   rw [if_pos rfl] at hi
   injection hi with hi; injection hi with hi
   rw [hlook, ← hi, hn0]; simp
  ·rw [if_neg e1] at hi; exact hi
 | some g =>
  obtain ⟨us, tt, fr, k1, k2, k3, k4, k5⟩ := hB.at hp
  simp only at k3
  have hst := run_storeCells_cells (P := P) g 0 L 0 w
   (fun j hj => by rw [Nat.add_zero, Nat.zero_add, cell_at k1 (by omega)]; rfl)
   (fun j hj => by rw [Nat.add_zero, Nat.zero_add]; exact frozen_at k1 k2 (by omega)) (by
    intro v hv
    rw [hL] at hv
    simp at hv
    obtain ⟨b', _, rfl⟩ := List.mem_map.1 (List.mem_of_mem_take hv)
    rfl)
  rw [Nat.add_zero] at hst
  have hr := hrunc _ (by rw [hp]; exact hst)
  have hpid := setAt_id p hp
  have hcid := setAt_id c (r := r) rfl
  have hF0 : ∀ j, ¬ F g j := fun j hj => by have := (hrel.fz r _ g j hlook hp hj).1; cases this
  have hDr : addD D r = D := by
   funext i; exact propext ⟨fun h => by rcases h with h | h; exact h; exact h ▸ hdr, .inl⟩
  have ext : Ext w D p c F (w.setCells g 0 L) D p c F := ⟨fun i hi => ⟨hi, rfl, rfl⟩, fun _ _ h => h, fun g' j hj => by
   by_cases e : g' = g
   ·subst e; exact absurd hj (hF0 j)
   ·exact World.cell?_of_block (w := w) (a := ⟨g', j, none⟩) (heap_setCells_ne e _ _ w)⟩
  have hturn := hrel.turn (r' := r) (b' := ⟨(bytesA b.data.toList).take n ++ cs.drop b.size, some e, false, pu⟩) hlook hp L 0 (.inl rfl) (c r) (fun j hj => absurd hj (hF0 j)) (fun h => by cases h) (by simp only [hnl, hcl]; omega) (isOb_el (by simp)) (by
   rw [hpid, hcid, hDr]
   unfold BlkOk; rw [hp]
   refine ⟨setV us 0 L, tt, fr, heap_setCells _ us 0 w k1, by rw [setV_size]; exact k2, by simp only [hnl, setV_size]; omega, ?_, fun e he => by rw [setV_size]; exact k5 e he⟩
   intro j hj
   simp only [hnl] at hj
   by_cases hjb : j < b.size
   ·have hjb3 : j < b.data.size := hjb
    have hjb2 : j < b.data.toList.length := by simpa using hjb3
    have e1 : ((bytesA b.data.toList).take n ++ cs.drop b.size)[j]'(by rw [hnl]; exact hj) = .ex (.int .u8 (b.data.toList.getD j 0).toNat) := by
     rw [List.getElem_append_left (by rw [List.length_take, hbl]; omega), List.getElem_take]
     have e4 : b.data[j]? = some b.data[j] := Array.getElem?_eq_getElem hjb3
     simp [bytesA, byteA, e4, List.getD]
    have e2 : (setV us 0 L).getD j undef = .int .u8 (b.data.toList.getD j 0).toNat := by
     rw [setV_getD _ _ _ _ (by omega), if_pos (by omega), Nat.sub_zero, hLat j (by omega)]
    rw [e2]
    show Rep _ _ _ _ _ (((bytesA b.data.toList).take n ++ cs.drop b.size)[j]'_) _
    rw [e1]
    exact .ex _ _
   ·have e1 : ((bytesA b.data.toList).take n ++ cs.drop b.size)[j]'(by rw [hnl]; exact hj) = cs[j]'(by omega) := by
     rw [List.getElem_append_right (by rw [List.length_take, hbl]; omega), List.getElem_drop]
     congr 1
     rw [List.length_take, hbl]; omega
    have e2 : (setV us 0 L).getD j undef = us.getD j undef := by
     rw [setV_getD _ _ _ _ (by omega), if_neg (by omega)]
    rw [e2]
    show Rep _ _ _ _ _ (((bytesA b.data.toList).take n ++ cs.drop b.size)[j]'_) _
    rw [e1]
    have := k4 j (by simp only; omega)
    cases hpu : pu with
    | true => rw [hpu] at this; exact this.mono ext.no
    | false => rw [hpu] at this; exact this.mono ext) (fun _ => rfl)
  rw [hpid, hcid, hDr, if_pos rfl] at hturn
  exact wp_value hr (hnext _ _ D p c F hturn (.ex _ _) fun i => ⟨.inl, fun h => by rcases h with h | h; exact h; omega⟩)
theorem ok_max {cl : Call} {h : Hp} {nx : Nat} {k : Kt} {o : Oper} (ho : o.op = .call cl) (hc : cl.callee = .builtin .max) (hk : opMax P sl o cl.args.toList k) : Is P o sl h nx k := by
 unfold opMax at hk
 split at hk
 ·rename_i x y ha
  have ha' : cl.args = #[x, y] := by rw [← Array.toList_inj]; exact ha
  split at hk
  ·rename_i kk a k2 b hx hy
   refine ⟨_, _, _, okQuiet fun w p c F D a' hev => ⟨_, ?_, .ex _ _⟩, hk⟩
   have h1 := (hx ▸ hev x : Rep w p c F D _ _).ex_inv
   have h2 := (hy ▸ hev y : Rep w p c F D _ _).ex_inv
   simp [execOp, ho, resolve, hc, ha', invoke, builtin, Builtin.max_, Builtin.max2, h1, h2]
  ·exact ok_fall (by intro cs b hh; rw [ho] at hh; cases hh) hk
 ·exact ok_fall (by intro cs b hh; rw [ho] at hh; cases hh) hk
theorem ok_min {cl : Call} {h : Hp} {nx : Nat} {k : Kt} {o : Oper} (ho : o.op = .call cl) (hc : cl.callee = .builtin .min) (hk : opMin P sl o cl.args.toList k) : Is P o sl h nx k := by
 unfold opMin at hk
 split at hk
 ·rename_i x y ha
  have ha' : cl.args = #[x, y] := by rw [← Array.toList_inj]; exact ha
  split at hk
  ·rename_i kk a k2 b hx hy
   refine ⟨_, _, _, okQuiet fun w p c F D a' hev => ⟨_, ?_, .ex _ _⟩, hk⟩
   have h1 := (hx ▸ hev x : Rep w p c F D _ _).ex_inv
   have h2 := (hy ▸ hev y : Rep w p c F D _ _).ex_inv
   simp [execOp, ho, resolve, hc, ha', invoke, builtin, Builtin.min_, Builtin.min2, h1, h2]
  ·exact ok_fall (by intro cs b hh; rw [ho] at hh; cases hh) hk
 ·exact ok_fall (by intro cs b hh; rw [ho] at hh; cases hh) hk
end
end
section
section
variable {P : Program} {o : Oper} {sl : Sl} {h : Hp} {nx : Nat} {k : Kt}
theorem aop_ok (hk : aop P (Sound P) o sl h nx k) : Is P o sl h nx k := by
 have notsel : ∀ {op : Op}, o.op = op → (∀ cs b, op ≠ .select cs b) → ∀ cs b, o.op ≠ .select cs b := by
  intro op e hn cs b; rw [e]; exact hn cs b
 unfold aop at hk
 split at hk
 ·rename_i x ho; exact ok_move ho hk
 ·rename_i x ho; exact ok_assign ho hk
 ·rename_i c a b ho; exact ok_pick ho hk
 ·rename_i t ho; exact ok_alloc ho hk
 ·rename_i t x ho; exact ok_box ho hk
 ·rename_i t x ho; exact ok_load ho hk
 ·rename_i t x y ho; exact ok_store ho hk
 ·rename_i t x f ho; exact ok_fieldAddr ho hk
 ·rename_i x ho; exact ok_nilCheck ho hk
 ·rename_i t x i ho; exact ok_indexAddr ho hk
 ·rename_i t i ho; exact ok_extract ho hk
 ·rename_i t n ps ho; exact ok_buildSlice ho hk
 ·rename_i t ps ho
  unfold opBuildA at hk
  split at hk
  ·obtain ⟨h1, v, h2, h3⟩ := hk
   refine ok_fall (by intro cs b hh; rw [ho] at hh; cases hh) (?_ : opFall P sl o k)
   unfold opFall
   rw [h1]
   dsimp only
   rw [h2]
   exact h3
  ·exact ok_build ho hk
 ·rename_i t x f ho; exact ok_field ho hk
 ·rename_i t x i ho; exact ok_index ho hk
 ·rename_i t x lo hi mx ho; exact ok_slice ho hk
 ·rename_i t n c ho; exact ok_make ho hk
 ·rename_i fn fst cap ho; exact ok_clo ho hk
 ·rename_i src dst x ho; exact ok_convert ho hk
 ·rename_i op t x y t' ho; exact ok_bin ho hk
 ·rename_i ho; exact ok_fall (by intro cs b hh; rw [ho] at hh; cases hh) hk
 ·rename_i c ho
  unfold opCall at hk
  split at hk
  ·rename_i f hc
   split at hk
   ·exact ok_callM ho hc hk
   ·exact ok_callV ho hc hk
  ·rename_i hc
   split at hk
   case h_2 => exact hk.elim
   rename_i x t ha ht
   exact ok_len ho hc ha ht hk
  ·rename_i hc
   split at hk
   case h_2 => exact hk.elim
   rename_i s x t tx ha ht
   exact ok_append ho hc ha ht hk
  ·rename_i hc
   split at hk
   case h_2 => exact hk.elim
   rename_i d x t tx ha ht
   exact ok_copy ho hc ha ht hk
  ·rename_i hc; exact ok_max ho hc hk
  ·rename_i hc; exact ok_min ho hc hk
  ·exact hk.elim
 ·exact hk.elim
end
end
section
def putK (m : Fr) (d : Option Tmp) (v : AV) (sl : Sl) (k : Sl → Prop) : Prop := match d with
 | some d => match Nat.blt d m.n, Nat.ble m.keep d with
  | true, true => forceV v fun v => k ((d, v) :: sl)
  | _, _ => False
 | none => k sl
def appK : Hp → Hp → (Hp → Prop) → Prop
 | [], h, k => k h
 | x :: d, h, k => appK d h fun h => k (x :: h)
theorem appK_eq : ∀ (d h : Hp) (k : Hp → Prop), appK d h k = k (d ++ h)
 | [], h, k => rfl
 | x :: d, h, k => by rw [appK, appK_eq d]; rfl
def stepN (nx n : Nat) (k : Nat → Prop) : Prop := match n with
 | 0 => k nx
 | n + 1 => forceN (nx + (n + 1)) k
theorem stepN_eq (nx n : Nat) (k : Nat → Prop) : stepN nx n k = k (nx + n) := by
 cases n with
 | zero => rfl
 | succ n => exact forceN_eq (nx + (n + 1)) k
def guardSlot (ops : Array Oper) (j : Nat) : Option Tmp := match ops[j]? with
 | some o => o.dst
 | none => none
section
variable (P : Program) (Snd : FuncId → List AV → AV → Prop) (ops : Array Oper) (m : Fr)
def aops : List Oper → Sl → Hp → Nat → (Sl → Hp → Nat → Prop) → Prop
 | [], sl, h, nx, K => K sl h nx
 | o :: l, sl, h, nx, K => match o.guard with
  | none => aop P Snd o sl h nx fun v d n => putK m o.dst v sl fun sl => appK d h fun h => stepN nx n fun nx => aops l sl h nx K
  | some (j, want) => match guardSlot ops j with
   | some g => match slotOf sl g with
    | .ex (.bool b) => (b = want → Hold (aop P Snd o ((g, .ex (.bool want)) :: sl) h nx fun v d n => putK m o.dst v ((g, .ex (.bool want)) :: sl) fun sl => appK d h fun h => stepN nx n fun nx => aops l sl h nx K)) ∧
      (b = (!want) → Hold (putK m o.dst (.ex undef) ((g, .ex (.bool (!want))) :: sl) fun sl => aops l sl h nx K))
    | .ex (.tuple _) => putK m o.dst (.ex undef) sl fun sl => aops l sl h nx K
    | _ => False
   | none => False
end
section
variable {P : Program} {w : World} {w0 : Ori} {D : Nat → Prop} {p : Nat → Option Nat} {c : Nat → Nat} {F F0 : Nat → Nat → Prop} {m : Fr} {sl : Sl} {h : Hp} {a : Act} {ops : Array Oper} {Q : Exit → Act → World → Prop}
theorem Rel.dom (hr : Rel P w0 F0 m D p c F sl h a w) {D' : Nat → Prop} (e : ∀ i, D' i ↔ D i) : Rel P w0 F0 m D' p c F sl h a w := by
 have : D' = D := funext fun i => propext (e i)
 rw [this]; exact hr
theorem slotOf_look {t : Nat} {v : AV} (e : slotOf sl t = v) (hv : v ≠ .unk) : look sl t = some v := by
 unfold slotOf at e
 split at e
 ·rename_i u hu; rw [hu, e]
 ·exact absurd e.symm hv
theorem Rel.again (hr : Rel P w0 F0 m D p c F sl h a w) {g : Nat} {v : AV} (e : look sl g = some v) : Rel P w0 F0 m D p c F ((g, v) :: sl) h a w :=
 hr.weaken (fun t u ht => by
  rw [look_cons] at ht
  by_cases e1 : g = t
  ·subst e1; rw [if_pos rfl] at ht; injection ht with ht; subst ht; exact .inr e
  ·rw [if_neg e1] at ht; exact .inr ht) fun _ _ h => h
theorem Rel.putK_ (hr : Rel P w0 F0 m D p c F sl h a w) {v : AV} {x : Value} (hv : Rep w p c F D v x) {d : Option Tmp} {k : Sl → Prop} (hk : putK m d v sl k) :
  ∃ sl', k sl' ∧ Rel P w0 F0 m D p c F sl' h (a.put d x) w := by
 unfold putK at hk
 split at hk
 ·rename_i d
  split at hk
  ·rename_i hd hd2
   rw [forceV_eq] at hk
   have hd' : d < m.n := by
    have : d + 1 ≤ m.n := by simpa [Nat.blt, Nat.ble_eq] using hd
    exact this
   exact ⟨_, hk, hr.put hv hd' (Nat.le_of_ble_eq_true hd2)⟩
  ·exact hk.elim
 ·exact ⟨_, hk, hr⟩
theorem yields (hr : Rel P w0 F0 m D p c F sl h a w) {j g : Nat} (hg : guardSlot ops j = some g) : (∀ b, look sl g = some (.ex (.bool b)) → yielded ops a.tmps j = some b) ∧ (∀ us, look sl g = some (.ex (.tuple us)) → yielded ops a.tmps j = none) := by
 have hd : (ops[j]?).bind (·.dst) = some g := by
  unfold guardSlot at hg
  cases ho : ops[j]? with
  | none => rw [ho] at hg; cases hg
  | some o => rw [ho] at hg; exact hg
 constructor
 ·intro b hb
  have := (hr.slots g _ hb).ex_inv
  have hlt : g < a.tmps.size := by
   apply Classical.byContradiction
   intro hn
   rw [Array.getD_eq_getD_getElem?, Array.getElem?_eq_none (Nat.le_of_not_lt hn)] at this
   cases this
  have e : a.tmps[g]? = some (.bool b) := by
   rw [Array.getElem?_eq_getElem hlt]
   rw [Array.getD_eq_getD_getElem?, Array.getElem?_eq_getElem hlt] at this
   exact congrArg some this
  simp [yielded, hd, e]
 ·intro us hb
  have := (hr.slots g _ hb).ex_inv
  cases e : a.tmps[g]? with
  | none => simp [yielded, hd, e]
  | some x =>
   rw [Array.getD_eq_getD_getElem?, e] at this
   have : x = .tuple us := this
   subst this
   simp [yielded, hd, e]
theorem op_step {o : Oper} {nx : Nat} {k : Kt} {next : Act → World → Prop} (hk : aop P (Sound P) o sl h nx k) (hr : Rel P w0 F0 m (ltD nx) p c F sl h a w)
  (hn : ∀ v d n x w' p' c' F', k v d n → Rel P w0 F0 m (ltD (nx + n)) p' c' F' sl (d ++ h) a w' → Rep w' p' c' F' (ltD (nx + n)) v x → next (a.put o.dst x) w') : o.wp P a w next Q := by
 obtain ⟨v, d, n, hok, hk⟩ := aop_ok hk
 refine hok w0 F0 m (ltD nx) p c F sl h a w next Q hr hr.ev_ (fun r b hb => blk_look hb) (fun i h1 h2 h3 => by have h4 : i < nx := h3; omega) ?_
 intro x w' D' p' c' F' h1 h2 h3
 have e : ∀ i, ltD (nx + n) i ↔ D' i := fun i => by
  rw [h3]; unfold ltD
  constructor
  ·intro h; by_cases h4 : i < nx
   ·exact .inl h4
   ·exact .inr ⟨by omega, h⟩
  ·intro h; rcases h with h | h <;> omega
 have e' : ltD (nx + n) = D' := funext fun i => propext (e i)
 rw [← e'] at h1 h2
 exact hn v d n x w' p' c' F' hk h1 h2
theorem aops_ok : ∀ (l : List Oper) (i : Nat) {sl : Sl} {h : Hp} {nx : Nat} {K : Sl → Hp → Nat → Prop} {p : Nat → Option Nat} {c : Nat → Nat} {F : Nat → Nat → Prop} {a : Act} {w : World}, (∀ j, l[j]? = ops[i + j]?) →
  aops P (Sound P) ops m l sl h nx K → Rel P w0 F0 m (ltD nx) p c F sl h a w →
  (∀ sl' h' nx' p' c' F' a' w', K sl' h' nx' → Rel P w0 F0 m (ltD nx') p' c' F' sl' h' a' w' → Q .normal a' w') → wpOps P ops Q (List.range' i l.length) a w
 | [], i, sl, h, nx, K, p, c, F, a, w, hl, hk, hr, hQ => hQ _ _ _ _ _ _ _ _ hk hr
 | o :: l, i, sl, h, nx, K, p, c, F, a, w, hl, hk, hr, hQ => by
  have ho : ops[i]? = some o := by have := hl 0; simpa using this.symm
  have hl' : ∀ j, l[j]? = ops[i + 1 + j]? := fun j => by have := hl (j + 1); rw [show i + 1 + j = i + (j + 1) by omega]; simpa using this
  have fin : ∀ {sl : Sl}, Rel P w0 F0 m (ltD nx) p c F sl h a w → (aop P (Sound P) o sl h nx fun v d n => putK m o.dst v sl fun sl => appK d h fun h => stepN nx n fun nx => aops P (Sound P) ops m l sl h nx K) →
    o.wp P a w (wpOps P ops Q (List.range' (i + 1) l.length)) Q := by
   intro sl hr hk
   refine op_step hk hr fun v d n x w' p' c' F' hk h1 h2 => ?_
   obtain ⟨sl', hk, hr'⟩ := h1.putK_ h2 hk
   rw [appK_eq, stepN_eq] at hk
   exact aops_ok l (i + 1) hl' hk hr' hQ
  have skip : ∀ {sl : Sl}, Rel P w0 F0 m (ltD nx) p c F sl h a w → (putK m o.dst (.ex undef) sl fun sl => aops P (Sound P) ops m l sl h nx K) → wpOps P ops Q (List.range' (i + 1) l.length) (a.put o.dst undef) w := by
   intro sl hr hk
   obtain ⟨sl', hk, hr'⟩ := hr.putK_ (.ex _ undef) hk
   exact aops_ok l (i + 1) hl' hk hr' hQ
  rw [List.length_cons, List.range'_succ]
  simp only [wpOps, ho]
  unfold aops at hk
  split at hk
  ·rename_i hg
   have hw : Region.wanted o (yielded ops a.tmps) = true := by simp [Region.wanted, hg]
   rw [if_pos hw]
   exact .inl (fin hr hk)
  ·rename_i j want hg
   split at hk
   case h_2 => exact hk.elim
   rename_i g hgs
   split at hk
   ·rename_i b hb
    have hlk := slotOf_look hb (by simp)
    have hy := (yields hr hgs).1 b hlk
    by_cases hbw : b = want
    ·have hw : Region.wanted o (yielded ops a.tmps) = true := by simp [Region.wanted, hg, hy, hbw]
     rw [if_pos hw]
     exact .inl (fin (hr.again (by rw [hlk, hbw])) (hk.1 hbw).out)
    ·have hbw' : b = (!want) := by cases b <;> cases want <;> simp_all
     have hw : ¬ Region.wanted o (yielded ops a.tmps) = true := by simp [Region.wanted, hg, hy, hbw]
     rw [if_neg hw]
     exact skip (hr.again (by rw [hlk, hbw'])) (hk.2 hbw').out
   ·rename_i us hb
    have hlk := slotOf_look hb (by simp)
    have hy := (yields hr hgs).2 us hlk
    have hw : ¬ Region.wanted o (yielded ops a.tmps) = true := by simp [Region.wanted, hg, hy]
    rw [if_neg hw]
    exact skip hr hk
   ·exact hk.elim
end
end
section
def namesO : List Operand → List Nat
 | [] => []
 | .tmp t :: l => t :: namesO l
 | _ :: l => namesO l
def restr (sl : Sl) : List Nat → Sl
 | [] => []
 | t :: l => (t, slotOf sl t) :: restr sl l
def hasBit (m j : Nat) : Bool := Nat.beq (Nat.land (Nat.shiftRight m j) 1) 1
def viewOf (mask : Nat) : List (Nat × Hp) → Hp → Hp
 | [], h => h
 | (j, d) :: l, h => match hasBit mask j with
  | true => d ++ viewOf mask l h
  | false => viewOf mask l h
def joinD : List (Nat × Hp) → Hp → Hp
 | [], h => h
 | (_, d) :: l, h => d ++ joinD l h
def idsLive (sl : Sl) : List Nat → List Nat
 | [] => []
 | t :: l => idsL (slotOf sl t).cells ++ idsLive sl l
def fpO (sl : Sl) (o : Oper) : List Nat := idsLive sl (namesO o.op.operands.toList)
def isMutO (sl : Sl) (o : Oper) : Bool := match o.op with
 | .call c => match c.callee with
  | .value f => isMut sl f
  | _ => false
 | _ => false
def fpX (sl : Sl) (o : Oper) (h : Hp) : List Nat := match isMutO sl o with
 | true => collect h 40 (fpO sl o) []
 | false => fpO sl o
def memN (t : Nat) : List Nat → Bool
 | [] => false
 | q :: l => Nat.beq q t || memN t l
def meets : List Nat → List Nat → Bool
 | [], _ => false
 | t :: l, k => memN t k || meets l k
def keysN : Hp → List Nat
 | [] => []
 | (r, _) :: d => r :: keysN d
def rowsOk1 (mask : Nat) (fp w : List Nat) : List (Nat × List Nat × List Nat) → Bool
 | [] => true
 | (j, tj, wj) :: l => match meets w tj || meets fp wj with
  | true => hasBit mask j && rowsOk1 mask fp w l
  | false => rowsOk1 mask fp w l
def rowsOk (mask : Nat) (fp w : List Nat) (l : List (Nat × List Nat × List Nat)) : Bool := match fp, w with
 | [], [] => true
 | _, _ => rowsOk1 mask fp w l
def restrH (h : Hp) : List Nat → Hp
 | [] => []
 | r :: l => match look h r with
  | some b => (r, b) :: restrH h l
  | none => restrH h l
def heapFor (fp : List Nat) (mask : Nat) (ds : List (Nat × Hp)) (h0 : Hp) : Hp := restrH (viewOf mask ds h0) fp
def pushD (i : Nat) (d : Hp) (ds : List (Nat × Hp)) : List (Nat × Hp) := match d with
 | [] => ds
 | x :: d => (i, x :: d) :: ds
section
variable (P : Program) (Snd : FuncId → List AV → AV → Prop) (ops : Array Oper) (m : Fr) (h0 : Hp)
def aopsD : List Oper → List Nat → Nat → Sl → List (Nat × Hp) → List (Nat × List Nat × List Nat) → Nat → (Sl → Hp → Nat → Prop) → Prop
 | [], _, _, sl, ds, _, nx, K => K sl (joinD ds h0) nx
 | _ :: _, [], _, _, _, _, _, _ => False
 | o :: l, mask :: ms, i, sl, ds, rows, nx, K => match o.guard with
  | none => forceL (fpX sl o (viewOf mask ds h0)) fun fp => aop P Snd o (restr sl (namesO o.op.operands.toList)) (heapFor fp mask ds h0) nx fun v d n => forceL (keysN d) fun ks =>
    match rowsOk mask fp ks rows with
    | true => putK m o.dst v sl fun sl' => stepN nx n fun nx => aopsD l ms (i + 1) sl' (pushD i d ds) ((i, fp ++ ks, ks) :: rows) nx K
    | false => False
  | some (j, want) => match guardSlot ops j, hasBit mask j with
   | some g, true => match slotOf sl g with
    | .ex (.bool b) => (b = want → Hold (forceL (fpX ((g, .ex (.bool want)) :: sl) o (viewOf mask ds h0)) fun fp => aop P Snd o (restr ((g, .ex (.bool want)) :: sl) (namesO o.op.operands.toList)) (heapFor fp mask ds h0) nx fun v d n => forceL (keysN d) fun ks =>
       match rowsOk mask fp ks rows with
       | true => putK m o.dst v ((g, .ex (.bool want)) :: sl) fun sl' => stepN nx n fun nx => aopsD l ms (i + 1) sl' (pushD i d ds) ((i, fp ++ ks, ks) :: rows) nx K
       | false => False)) ∧
      (b = (!want) → Hold (putK m o.dst (.ex undef) ((g, .ex (.bool (!want))) :: sl) fun sl => aopsD l ms (i + 1) sl (pushD i [] ds) ((i, [], []) :: rows) nx K))
    | .ex (.tuple _) => putK m o.dst (.ex undef) sl fun sl => aopsD l ms (i + 1) sl (pushD i [] ds) ((i, [], []) :: rows) nx K
    | _ => False
   | _, _ => False
end
def told (ms : List Nat) (j : Nat) : List Edge → Bool
 | [] => false
 | e :: l => (Region.binds .any e && (Nat.beq e.on j || hasBit (ms.getD e.on 0) j)) || told ms j l
def bitsOk (ms : List Nat) (mask : Nat) (es : List Edge) : Nat → Bool
 | 0 => true
 | j + 1 => (!hasBit mask j || told ms j es) && bitsOk ms mask es j
def edgesOk (i : Nat) : List Edge → Bool
 | [] => true
 | e :: l => (!Region.binds .any e || Nat.blt e.on i) && edgesOk i l
def guardNames (ops : Array Oper) (o : Oper) : List Nat := match o.guard with
 | some (j, _) => match guardSlot ops j with
  | some g => [g]
  | none => []
 | none => []
def dstNames (o : Oper) : List Nat := match o.dst with
 | some d => [d]
 | none => []
def allNames (ops : Array Oper) (o : Oper) : List Nat := dstNames o ++ (guardNames ops o ++ namesO o.op.operands.toList)
def sharesOk (ops : Array Oper) (mask : Nat) (o : Oper) : Nat → List Oper → Bool
 | _, [] => true
 | j, q :: l => (!(meets (dstNames q) (allNames ops o) || meets (dstNames o) (allNames ops q)) || hasBit mask j) && sharesOk ops mask o (j + 1) l
def drawFrom (ops : Array Oper) (all : List Oper) (ms : List Nat) : Nat → List Oper → List Nat → Bool
 | _, [], [] => true
 | i, o :: l, mask :: k => Nat.blt mask (Nat.shiftLeft 1 i) && bitsOk ms mask o.after.toList i && edgesOk i o.after.toList && sharesOk ops mask o 0 (all.take i) && drawFrom ops all ms (i + 1) l k
 | _, _, _ => false
def drawOk (ops : Array Oper) (ms : List Nat) : Bool := drawFrom ops ops.toList ms 0 ops.toList ms
def aregD (P : Program) (Snd : FuncId → List AV → AV → Prop) (ops : Array Oper) (m : Fr) (sl : Sl) (h : Hp) (nx : Nat) (K : Sl → Hp → Nat → Prop) : Prop :=
 ∃ (pre ms : List Nat), drawOk ops ms = true ∧ aopsD P Snd ops m (freezes h pre ++ h) ops.toList ms 0 sl [] [] nx K
end
end Go.Proofs.YtbaedepmogkkeaaGreat.Av
