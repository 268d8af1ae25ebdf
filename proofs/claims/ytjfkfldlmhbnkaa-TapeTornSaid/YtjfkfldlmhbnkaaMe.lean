/- The abstract machine: code, loops, functions; and that they are true of the model. No program's law is stated here. No conditions. -/
import Derived.Test.YtjfkfldlmhbnkaaMd
import Derived.Deep.LoopGhost
import Derived.Scope
namespace Go.Proofs.Ytjfkfldlmhbnkaa.Av
open Go Go.RowKit
set_option linter.unusedVariables false
set_option linter.unusedSimpArgs false

section

inductive AX where
  | norm
  | exit (id : Nat)
  | ret

/-! ### the state at a loop's head, brought into one form -/
def liveV (acc : List Nat) (sl : Sl) : List Nat → List AV
  | [] => []
  | t :: l => renV acc (slotOf sl t) :: liveV acc sl l
/-- nil slices become rows of the call's own (some e), or slices that are read (none) -/
def thaw : List (Nat × Option TypeId) → Sl → Hp → Nat → (Sl → Hp → Nat → Prop) → Prop
  | [], sl, h, nx, k => k sl h nx
  | (t, e) :: l, sl, h, nx, k => match slotOf sl t with
    | .ex (.slice none 0 0) => match e with
      | some e => thaw l ((t, .sl nx 0) :: sl) ((nx, some ⟨[], some e, false, true⟩) :: h) (nx + 1) k
      | none => thaw l ((t, .vs 0 []) :: sl) h nx k
    | .ex (.pointer none) => thaw l ((t, .pt false []) :: sl) h nx k
    | .ex (.agg us) => match us.toList with
      | [.pointer none] => thaw l ((t, .agg [.pt false []]) :: sl) h nx k
      | _ => thaw l sl h nx k
    | _ => thaw l sl h nx k
def canonK (live : List Nat) (th : List (Nat × Option TypeId)) (sl : Sl) (h : Hp) (nx : Nat) (k : List AV → List ABlk → Prop) : Prop :=
  thaw th sl h nx fun sl h nx => forceL (collect h 40 (idsLive sl live) []) fun acc => match nodupN acc, Nat.beq (liveB acc h acc).length acc.length with
    | true, true => forceCs (liveV acc sl live) fun vs => forceBs (liveB acc h acc) fun bs => k vs bs
    | _, _ => False
def zipS : List Nat → List AV → Sl
  | t :: l, v :: vs => (t, v) :: zipS l vs
  | _, _ => []
section
variable (P : Program) (Snd : FuncId → List AV → AV → Prop) (m : Fr)
abbrev QA := AX → Sl → Hp → Nat → Prop
def avc : Code → Sl → Hp → Nat → QA → Prop
  | .skip, sl, h, nx, Q => Q .norm sl h nx
  | .region _ ops draw, sl, h, nx, Q => match draw with
    | false => aops P Snd ops m ops.toList sl h nx fun sl h nx => Hold (Q .norm sl h nx)
    | true => aregD P Snd ops m sl h nx fun sl h nx => Hold (Q .norm sl h nx)
  | .seq a b, sl, h, nx, Q => avc a sl h nx fun e sl h nx => match e with
    | .norm => avc b sl h nx Q
    | .exit i => Q (.exit i) sl h nx
    | .ret => Q .ret sl h nx
  | .cond c a b, sl, h, nx, Q => match ev sl c with
    | .ex (.bool c) => (c = true → avc a sl h nx Q) ∧ (c = false → avc b sl h nx Q)
    | _ => False
  | .block id c, sl, h, nx, Q => avc c sl h nx fun e sl h nx => match e with
    | .norm => Q .norm sl h nx
    | .exit i => match Nat.beq i id with
      | true => Q .norm sl h nx
      | false => Q (.exit i) sl h nx
    | .ret => Q .ret sl h nx
  | .scope c, sl, h, nx, Q => avc c sl h nx Q
  | .loop c, sl, h, nx, Q => ∃ (live : List Nat) (th : List (Nat × Option TypeId)) (I : List AV → List ABlk → Prop) (μ : List AV → List ABlk → Nat),
      canonK live th sl h nx I ∧ ∀ vs bs, I vs bs → avc c (zipS live vs) (zipB 0 bs) bs.length fun e sl h nx => match e with
        | .norm => canonK live th sl h nx fun vs' bs' => I vs' bs' ∧ μ vs' bs' < μ vs bs
        | .exit i => Q (.exit i) sl h nx
        | .ret => Q .ret sl h nx
  | .label _, sl, h, nx, Q => Q .norm sl h nx
  | .exit id, sl, h, nx, Q => Q (.exit id) sl h nx
  | .ret, sl, h, nx, Q => Q .ret sl h nx
  | _, _, _, _, _ => False

def startS : Nat → List AV → Sl
  | _, [] => []
  | i, v :: l => (i, v) :: startS (i + 1) l
/-- a result, out of its variable -/
def resV (sl : Sl) (h : Hp) : ResultVar → (AV → Prop) → Prop
  | .tmp t, k => k (slotOf sl t)
  | .cell a ty, k => match slotOf sl a with
    | .ptr r off => match blkOf h r with
      | some ⟨cs, none, _, _⟩ => loadA P ty cs off k
      | _ => False
    | _ => False
/-- a value that is handed back, told as r -/
def give (h : Hp) (v r : AV) : Prop := match r with
  | .own e n ds => match v with
    | .sl q k => match blkOf h q with
      | some ⟨cs, some e', _, true⟩ => e = e' ∧ n = k ∧ ds = cs
      | _ => False
    | .ex (.slice none 0 0) => n = 0 ∧ ds = []
    | _ => False
  | .vs n ds => match v with
    | .ex (.slice none 0 0) => n = 0 ∧ ds = []
    | v => match packV h v with
      | some (v', _) => v' = .vs n ds
      | none => False
  | .pt b cs => match v with
    | .pt b' cs' => b' = b ∧ cs' = cs
    | .ex (.pointer none) => b = false
    | v => match packV h v with
      | some (.vp cs' 0, _) => b = true ∧ cs' = cs
      | _ => False
  | r => match packV h v with
    | some (v', _) => v' = r
    | none => False
def noOwn : AV → Bool
  | .own _ _ _ => false
  | _ => true
def noOwnL : List AV → Bool
  | [] => true
  | v :: l => noOwn v && noOwnL l
/-- one at most is handed over -/
def oneOwn : List AV → Bool
  | [] => true
  | v :: l => match noOwn v with
    | true => oneOwn l
    | false => noOwnL l
def giveL (sl : Sl) (h : Hp) : List ResultVar → List AV → Prop
  | [], [] => True
  | x :: l, r :: rs => (resV P sl h x fun v => give h v r) ∧ giveL sl h l rs
  | _, _ => False
def aret (fn : Func) (sl : Sl) (h : Hp) (r : AV) : Prop := match fn.results.toList with
  | [x] => resV P sl h x fun v => give h v r
  | l => match r with
    | .tup rs => match oneOwn rs with
      | true => giveL P sl h l rs
      | false => False
    | _ => False
/-- all results, out of their variables -/
def resLK (sl : Sl) (h : Hp) : List ResultVar → (List AV → Prop) → Prop
  | [], k => k []
  | x :: l, k => resV P sl h x fun v => resLK sl h l fun vs => k (v :: vs)
def packR : List AV → AV
  | [x] => x
  | l => .tup l
def slotsN (sl : Sl) : Nat → Nat → List AV
  | _, 0 => []
  | i, n + 1 => slotOf sl i :: slotsN sl (i + 1) n
/-- what stands behind a body that may write to what its arguments reach -/
def aretM (fn : Func) (n : Nat) (sl : Sl) (h : Hp) (rargs : List AV) (r : AV) (bs' : List ABlk) : Prop :=
  resLK P sl h fn.results.toList fun rvs => forceL (collect h 40 (idsVs (slotsN sl 0 n ++ rvs)) []) fun acc => match nodupN acc, Nat.beq (liveB acc h acc).length acc.length with
    | true, true => renVL acc (slotsN sl 0 n) = rargs ∧ packR (renVL acc rvs) = r ∧ liveB acc h acc = bs'
    | _, _ => False
def abodyM (fn : Func) (args : List AV) (bs : List ABlk) (n : Nat) (rargs : List AV) (r : AV) (bs' : List ABlk) : Prop := match fn.body with
  | some c => avc P Snd ⟨fn.ntmps, n⟩ c (startS 0 args) (zipB 0 bs) bs.length fun e sl h nx => match e with
    | .norm => aretM P fn n sl h rargs r bs'
    | .ret => aretM P fn n sl h rargs r bs'
    | .exit _ => False
  | none => False
def abody (fn : Func) (args : List AV) (r : AV) : Prop := match fn.body with
  | some c => avc P Snd ⟨fn.ntmps, 0⟩ c (startS 0 args) [] 0 fun e sl h nx => match e with
    | .norm => aret P fn sl h r
    | .ret => aret P fn sl h r
    | .exit _ => False
  | none => False
end
end
section

section
variable {P : Program} {w : World} {w0 : Ori} {D : Nat → Prop} {p : Nat → Option Nat} {c : Nat → Nat} {F F0 : Nat → Nat → Prop} {m : Fr} {sl : Sl} {h : Hp} {a : Act} {Q : Exit → Act → World → Prop}
theorem zipS_look {acc : List Nat} : ∀ {live : List Nat} {t : Nat} {v : AV}, look (zipS live (liveV acc sl live)) t = some v → v = renV acc (slotOf sl t)
  | [], t, v, h => by simp [zipS, look] at h
  | q :: live, t, v, h => by
    simp only [liveV, zipS] at h
    rw [look_cons] at h
    by_cases e : q = t
    · subst e; rw [if_pos rfl] at h; injection h with h; exact h.symm
    · rw [if_neg e] at h; exact zipS_look h
theorem thaw_ok : ∀ {th : List (Nat × Option TypeId)} {sl : Sl} {h : Hp} {nx : Nat} {k : Sl → Hp → Nat → Prop} {p : Nat → Option Nat} {c : Nat → Nat}, thaw th sl h nx k → Rel P w0 F0 m (ltD nx) p c F sl h a w →
    ∃ sl' h' nx' p' c', k sl' h' nx' ∧ Rel P w0 F0 m (ltD nx') p' c' F sl' h' a w
  | [], sl, h, nx, k, p, c, hk, hr => ⟨sl, h, nx, p, c, hk, hr⟩
  | (t, e) :: th, sl, h, nx, k, p, c, hk, hr => by
    unfold thaw at hk
    split at hk
    · rename_i hs
      have hlk := slotOf_look hs (by simp)
      have hv := (hr.slots t _ hlk).ex_inv
      cases e with
      | some e =>
        have hnd : ¬ ltD nx nx := by unfold ltD; omega
        have h1 := hr.newNil hnd e false true
        have e1 : ∀ i, ltD (nx + 1) i ↔ addD (ltD nx) nx i := fun i => by unfold ltD addD; constructor <;> intro h <;> omega
        have h2 := h1.dom e1
        have h3 : Rel P w0 F0 m (ltD (nx + 1)) (setAt p nx none) (setAt c nx 0) F ((t, .sl nx 0) :: sl) ((nx, some ⟨[], some e, false, true⟩) :: h) a w := by
          refine ⟨fun q u hq => ?_, h2.size, h2.keep, h2.defers, h2.live, h2.inj, h2.own, h2.fr, h2.fz, h2.sub, h2.f0, h2.below, h2.cell⟩
          rw [look_cons] at hq
          by_cases e2 : t = q
          · subst e2; rw [if_pos rfl] at hq; injection hq with hq; subst hq
            rw [hv]
            have := Rep.sl (w := w) (p := setAt p nx none) (c := setAt c nx 0) (F := F) (ltD (nx + 1)) nx 0 (by unfold ltD; omega) (by rw [setAt_same]; omega)
            rw [setAt_same, setAt_same] at this
            exact this
          · rw [if_neg e2] at hq; exact h2.slots q u hq
        exact thaw_ok hk h3
      | none =>
        have h3 : Rel P w0 F0 m (ltD nx) p c F ((t, .vs 0 []) :: sl) h a w := by
          refine ⟨fun q u hq => ?_, hr.size, hr.keep, hr.defers, hr.live, hr.inj, hr.own, hr.fr, hr.fz, hr.sub, hr.f0, hr.below, hr.cell⟩
          rw [look_cons] at hq
          by_cases e2 : t = q
          · subst e2; rw [if_pos rfl] at hq; injection hq with hq; subst hq
            rw [hv]; exact .vnil _
          · rw [if_neg e2] at hq; exact hr.slots q u hq
        exact thaw_ok hk h3
    · rename_i hs
      have hlk := slotOf_look hs (by simp)
      have hv := (hr.slots t _ hlk).ex_inv
      have h3 : Rel P w0 F0 m (ltD nx) p c F ((t, .pt false []) :: sl) h a w := by
        refine ⟨fun q u hq => ?_, hr.size, hr.keep, hr.defers, hr.live, hr.inj, hr.own, hr.fr, hr.fz, hr.sub, hr.f0, hr.below, hr.cell⟩
        rw [look_cons] at hq
        by_cases e2 : t = q
        · subst e2; rw [if_pos rfl] at hq; injection hq with hq; subst hq
          rw [hv]; exact .pt0 _ _
        · rw [if_neg e2] at hq; exact hr.slots q u hq
      exact thaw_ok hk h3
    · rename_i us hs
      split at hk
      · rename_i hus
        have hlk := slotOf_look hs (by simp)
        have hv := (hr.slots t _ hlk).ex_inv
        have hus2 : us = #[.pointer none] := by rw [← Array.toList_inj]; exact hus
        have h3 : Rel P w0 F0 m (ltD nx) p c F ((t, .agg [.pt false []]) :: sl) h a w := by
          refine ⟨fun q u hq => ?_, hr.size, hr.keep, hr.defers, hr.live, hr.inj, hr.own, hr.fr, hr.fz, hr.sub, hr.f0, hr.below, hr.cell⟩
          rw [look_cons] at hq
          by_cases e2 : t = q
          · subst e2; rw [if_pos rfl] at hq; injection hq with hq; subst hq
            rw [hv, hus2]
            exact .agg _ [.pt false []] #[.pointer none] rfl fun j hj => by
              have : j = 0 := by simpa using hj
              subst this
              exact .pt0 _ _
          · rw [if_neg e2] at hq; exact hr.slots q u hq
        exact thaw_ok hk h3
      · exact thaw_ok hk hr
    · exact thaw_ok hk hr
theorem canon_ok {live : List Nat} {th : List (Nat × Option TypeId)} {nx : Nat} {k : List AV → List ABlk → Prop} (hk : canonK live th sl h nx k) (hr : Rel P w0 F0 m (ltD nx) p c F sl h a w) :
    ∃ vs bs p' c', k vs bs ∧ Rel P w0 F0 m (ltD bs.length) p' c' F (zipS live vs) (zipB 0 bs) a w := by
  unfold canonK at hk
  obtain ⟨sl, h, nx, p, c, hk, hr⟩ := thaw_ok hk hr
  rw [forceL_eq] at hk
  generalize collect h 40 (idsLive sl live) [] = acc at hk
  split at hk
  case h_2 => exact hk.elim
  rename_i hnd hlen
  rw [forceCs_eq, forceBs_eq] at hk
  have hlen' : (liveB acc h acc).length = acc.length := Nat.eq_of_beq_eq_true hlen
  have hnd' := nodupN_spec hnd
  refine ⟨_, _, pA p acc, cA c acc, hk, ?_⟩
  rw [hlen']
  have key : ∀ i b', look (zipB 0 (liveB acc h acc)) i = some (some b') → ∃ r b, acc[i]? = some r ∧ look h r = some (some b) ∧ b' = renB acc b := by
    intro i b' hi
    obtain ⟨_, h2⟩ := zipB_look hi
    rw [Nat.sub_zero] at h2
    have hlt : i < acc.length := by rw [← hlen']; exact (List.getElem?_eq_some_iff.1 h2).1
    obtain ⟨b, k1, k2⟩ := liveB_at hlen' i acc[i] (List.getElem?_eq_getElem hlt)
    rw [k2] at h2; injection h2 with h2
    exact ⟨acc[i], b, List.getElem?_eq_getElem hlt, blk_look k1, h2.symm⟩
  have hp : ∀ i r, acc[i]? = some r → pA p acc i = p r ∧ cA c acc i = c r := fun i r hi => ⟨by simp only [pA, hi], by simp only [cA, hi]⟩
  have hbc : ∀ b : ABlk, (renB acc b).cells.length = b.cells.length ∧ (renB acc b).el = b.el ∧ (renB acc b).fz = b.fz ∧ (renB acc b).pu = b.pu := by
    intro b; unfold renB
    split
    · exact ⟨rfl, rfl, rfl, rfl⟩
    · exact ⟨renL_length _ _, rfl, rfl, rfl⟩
  refine ⟨fun t v ht => ?_, hr.size, hr.keep, hr.defers, fun i b' hi => ?_, fun i i' b1 b2 g h1 h2 p1 p2 => ?_, fun i b' g hi hpi => ?_, hr.fr, fun i b' g j hi hpi hj => ?_, hr.sub, hr.f0, hr.below, hr.cell⟩
  · rw [zipS_look ht]
    exact renV_ok (hr.ev_ (.tmp t))
  · obtain ⟨r, b, h1, h2, rfl⟩ := key i b' hi
    refine ⟨(List.getElem?_eq_some_iff.1 h1).1, ?_⟩
    have hB := (hr.live r b h2).2
    obtain ⟨e1, e2, e3, e4⟩ := hbc b
    unfold BlkOk at hB ⊢
    rw [(hp i r h1).1, (hp i r h1).2, e2]
    cases hpr : p r with
    | none =>
      rw [hpr] at hB
      simp only at hB ⊢
      exact ⟨List.eq_nil_of_length_eq_zero (by rw [e1, hB.1]; rfl), hB.2⟩
    | some g =>
      rw [hpr] at hB
      simp only at hB ⊢
      obtain ⟨us, t, fr, k1, k2, k3, k4, k5⟩ := hB
      refine ⟨us, t, fr, k1, k2, by rw [e1]; exact k3, fun j hj => ?_, k5⟩
      have hj' : j < b.cells.length := by rw [e1] at hj; exact hj
      have h4 := k4 j hj'
      rw [e4]
      cases hpu : b.pu with
      | true =>
        have ec : (renB acc b).cells = b.cells := by unfold renB; rw [hpu]; rfl
        rw [hpu] at h4
        simp only [ec]
        exact h4.of_no
      | false =>
        have ec : (renB acc b).cells = renL acc b.cells := by unfold renB; rw [hpu]; rfl
        rw [hpu] at h4
        simp only [ec]
        rw [renL_at]
        exact renC_ok h4
  · obtain ⟨r, b, q1, q2, rfl⟩ := key i b1 h1
    obtain ⟨r', b', q1', q2', rfl⟩ := key i' b2 h2
    rw [(hp i r q1).1] at p1
    rw [(hp i' r' q1').1] at p2
    have := hr.inj r r' b b' g q2 q2' p1 p2
    subst this
    exact (List.getElem?_inj (List.getElem?_eq_some_iff.1 q1).1 hnd').1 (q1.trans q1'.symm)
  · obtain ⟨r, b, q1, q2, rfl⟩ := key i b' hi
    rw [(hp i r q1).1] at hpi
    exact hr.own r b g q2 hpi
  · obtain ⟨r, b, q1, q2, rfl⟩ := key i b' hi
    rw [(hp i r q1).1] at hpi
    obtain ⟨e1, e2, e3, e4⟩ := hbc b
    obtain ⟨k1, k2⟩ := hr.fz r b g j q2 hpi hj
    exact ⟨by rw [e3]; exact k1, by rw [e1]; exact k2⟩
end

section
variable {P : Program} {w0 : Ori} {F0 : Nat → Nat → Prop} {m : Fr}
/-- what stands for an exit -/
def ofAX : AX → Exit
  | .norm => .normal
  | .exit i => .exit i
  | .ret => .ret
theorem avc_ok (hm : P.follows .mixedOrders = true) : ∀ (code : Code) {sl : Sl} {h : Hp} {nx : Nat} {K : QA} {p : Nat → Option Nat} {c : Nat → Nat} {F : Nat → Nat → Prop} {a : Act} {w : World} {Q : Exit → Act → World → Prop},
    avc P (Sound P) m code sl h nx K → Rel P w0 F0 m (ltD nx) p c F sl h a w →
    (∀ e sl' h' nx' p' c' F' a' w', K e sl' h' nx' → Rel P w0 F0 m (ltD nx') p' c' F' sl' h' a' w' → Q (ofAX e) a' w') → code.wp P Q a w
  | .skip, sl, h, nx, K, p, c, F, a, w, Q, hk, hr, hQ => wp_skip (hQ .norm _ _ _ _ _ _ _ _ hk hr)
  | .label l, sl, h, nx, K, p, c, F, a, w, Q, hk, hr, hQ => by
    refine wp_label ?_
    exact hQ .norm _ _ _ _ _ _ _ _ hk hr
  | .region id ops false, sl, h, nx, K, p, c, F, a, w, Q, hk, hr, hQ => by
    refine wp_region ?_
    have := aops_ok (Q := Q) (ops := ops) ops.toList 0 (fun j => by simp) hk hr (fun sl' h' nx' p' c' F' a' w' h1 h2 => hQ .norm _ _ _ _ _ _ _ _ h1.out h2)
    simpa [List.range_eq_range'] using this
  | .region id ops true, sl, h, nx, K, p, c, F, a, w, Q, hk, hr, hQ => aregD_ok hm hk hr fun sl' h' nx' p' c' F' a' w' h1 h2 => hQ .norm _ _ _ _ _ _ _ _ h1.out h2
  | .seq x y, sl, h, nx, K, p, c, F, a, w, Q, hk, hr, hQ => by
    refine wp_seq (avc_ok hm x hk hr fun e sl' h' nx' p' c' F' a' w' h1 h2 => ?_)
    cases e with
    | norm => exact avc_ok hm y h1 h2 hQ
    | exit i => exact hQ (.exit i) _ _ _ _ _ _ _ _ h1 h2
    | ret => exact hQ .ret _ _ _ _ _ _ _ _ h1 h2
  | .cond x y z, sl, h, nx, K, p, c, F, a, w, Q, hk, hr, hQ => by
    unfold avc at hk
    split at hk
    · rename_i b hb
      have he := (hb ▸ hr.ev_ x : Rep w p c F (ltD nx) _ _).ex_inv
      exact wp_cond_split he (fun ht => avc_ok hm y (hk.1 ht) hr hQ) (fun hf => avc_ok hm z (hk.2 hf) hr hQ)
    · exact hk.elim
  | .block id x, sl, h, nx, K, p, c, F, a, w, Q, hk, hr, hQ => by
    refine wp_block (avc_ok hm x hk hr fun e sl' h' nx' p' c' F' a' w' h1 h2 => ?_)
    cases e with
    | norm => exact hQ .norm _ _ _ _ _ _ _ _ h1 h2
    | exit i =>
      simp only at h1
      simp only [ofAX, Exit.inBlock]
      cases hb : Nat.beq i id with
      | true =>
        rw [hb] at h1
        rw [if_pos (Nat.eq_of_beq_eq_true hb)]
        exact hQ .norm _ _ _ _ _ _ _ _ h1 h2
      | false =>
        rw [hb] at h1
        rw [if_neg (fun e => by rw [e] at hb; simp at hb)]
        exact hQ (.exit i) _ _ _ _ _ _ _ _ h1 h2
    | ret => exact hQ .ret _ _ _ _ _ _ _ _ h1 h2
  | .scope x, sl, h, nx, K, p, c, F, a, w, Q, hk, hr, hQ => by
    refine wp_scope_straight (avc_ok hm x hk hr fun e sl' h' nx' p' c' F' a' w' h1 h2 => ?_)
    have := hQ e _ _ _ _ _ _ _ _ h1 h2
    cases e <;> exact this
  | .loop x, sl, h, nx, K, p, c, F, a, w, Q, hk, hr, hQ => by
    unfold avc at hk
    obtain ⟨live, th, I, μ, h0, hround⟩ := hk
    obtain ⟨vs, bs, p', c', hI, hr'⟩ := canon_ok h0 hr
    refine wp_loop_ghost (fun n a w => ∃ vs bs p c F, μ vs bs = n ∧ I vs bs ∧ Rel P w0 F0 m (ltD bs.length) p c F (zipS live vs) (zipB 0 bs) a w) (μ vs bs) ⟨vs, bs, p', c', _, rfl, hI, hr'⟩ ?_
    rintro n a w ⟨vs, bs, p, c, F, rfl, hI, hr⟩
    refine avc_ok hm x (hround vs bs hI) hr fun e sl' h' nx' p' c' F' a' w' h1 h2 => ?_
    cases e with
    | norm =>
      obtain ⟨vs', bs', p2, c2, ⟨q1, q2⟩, q3⟩ := canon_ok h1 h2
      exact ⟨_, q2, vs', bs', p2, c2, _, rfl, q1, q3⟩
    | exit i => exact hQ (.exit i) _ _ _ _ _ _ _ _ h1 h2
    | ret => exact hQ .ret _ _ _ _ _ _ _ _ h1 h2
  | .exit id, sl, h, nx, K, p, c, F, a, w, Q, hk, hr, hQ => wp_exit (hQ (.exit id) _ _ _ _ _ _ _ _ hk hr)
  | .ret, sl, h, nx, K, p, c, F, a, w, Q, hk, hr, hQ => wp_ret (hQ .ret _ _ _ _ _ _ _ _ hk hr)
  | .rangeFunc .., _, _, _, _, _, _, _, _, _, _, hk, _, _ => hk.elim
  | .goto _, _, _, _, _, _, _, _, _, _, _, hk, _, _ => hk.elim
  | .refuse _, _, _, _, _, _, _, _, _, _, _, hk, _, _ => hk.elim
end

section
variable {P : Program} {w : World} {w0 : Ori} {D : Nat → Prop} {p : Nat → Option Nat} {c : Nat → Nat} {F F0 : Nat → Nat → Prop} {m : Fr} {sl : Sl} {h : Hp} {a : Act}
theorem startS_look : ∀ {args : List AV} {i t : Nat} {v : AV}, look (startS i args) t = some v → i ≤ t ∧ args[t - i]? = some v
  | [], i, t, v, h => by simp [startS, look] at h
  | u :: args, i, t, v, h => by
    simp only [startS] at h
    rw [look_cons] at h
    by_cases e : i = t
    · subst e; rw [if_pos rfl] at h; injection h with h; subst h; exact ⟨Nat.le_refl _, by simp⟩
    · rw [if_neg e] at h
      obtain ⟨h1, h2⟩ := startS_look h
      refine ⟨by omega, ?_⟩
      have : t - i = (t - (i + 1)) + 1 := by omega
      rw [this]; simpa using h2
/-- one result variable, read -/
def varOk (P : Program) (tmps : Array Value) (w : World) (x : ResultVar) (u : Value) : Prop := (match x with
  | .tmp t => (pure (tmps.getD t undef) : Sem Value)
  | .cell a t => do loadVar t (← asAddr (tmps.getD a undef))).run P w = .ok u w
theorem resV_ok {x : ResultVar} {k : AV → Prop} (hr : Rel P w0 F0 m D p c F sl h a w) (hk : resV P sl h x k) : ∃ v u, k v ∧ varOk P a.tmps w x u ∧ Rep w p c F D v u := by
  cases x with
  | tmp t => exact ⟨_, _, hk, rfl, hr.ev_ (.tmp t)⟩
  | cell q t =>
    unfold resV at hk
    simp only at hk
    split at hk
    · rename_i r off hs
      split at hk
      · rename_i cs fz pu hb
        obtain ⟨v, hv, hl⟩ := loadA_ok (g := 0) (o := 0) hk
        have h1 := hr.slots q _ (slotOf_look hs (by simp))
        obtain ⟨g, hd, hp, he⟩ := h1.ptr_inv
        obtain ⟨u, k1, k2⟩ := hl w D p c F g 0 ((hr.live r _ (blk_look hb)).2.cells hp)
        rw [Nat.zero_add] at k1
        refine ⟨v, u, hv, ?_, k2⟩
        unfold varOk
        simp only [he, asAddr, Sem.run_bind, Sem.run_pure, Result.andThen_ok, k1]
      · exact hk.elim
    · exact hk.elim
/-- a value that is handed back, when what it shows is frozen -/
theorem give_ok {v r : AV} {u : Value} {heap : Hp} (hr : Rel P w0 F0 m D p c F sl heap a w) (hv : ViewF h heap) (hk : give h v r) (hu : Rep w p c F D v u) :
    ∃ heap' F', Rel P w0 F0 m D p c F' sl heap' a w ∧ ViewF h heap' ∧ (∀ g j, F g j → F' g j) ∧ (noOwn r = true → Rep w p c F' noD r u) := by
  have pkV : ∀ {v' : AV} {fr : List Nat}, packV h v = some (v', fr) → ∃ heap' F', Rel P w0 F0 m D p c F' sl heap' a w ∧ ViewF h heap' ∧ (∀ g j, F g j → F' g j) ∧ Rep w p c F' noD v' u := by
    intro v' fr h1
    obtain ⟨F1, g1, g2, g3, g4⟩ := hr.freezes_ fr hv
    refine ⟨_, F1, g1, g3, g2, packV_ok (P := P) h1 (hu.mono ⟨fun i hi => ⟨hi, rfl, rfl⟩, g2, fun _ _ _ => rfl⟩) (fun q b hb => ?_) g4⟩
    obtain ⟨f, k1, _⟩ := hv q b hb
    have := (hr.live q _ k1).2.mono (hr.live q _ k1).1 (w' := w) (D' := D) (p' := p) (c' := c) (F' := F1) ⟨fun i hi => ⟨hi, rfl, rfl⟩, g2, fun _ _ _ => rfl⟩ fun _ _ => rfl
    unfold BlkOk at this ⊢
    exact this
  have pk : ∀ {v' : AV} {fr : List Nat}, packV h v = some (v', fr) → v' = r → ∃ heap' F', Rel P w0 F0 m D p c F' sl heap' a w ∧ ViewF h heap' ∧ (∀ g j, F g j → F' g j) ∧ (noOwn r = true → Rep w p c F' noD r u) := by
    intro v' fr h1 h2
    subst h2
    obtain ⟨heap', F', q1, q2, q3, q4⟩ := pkV h1
    exact ⟨heap', F', q1, q2, q3, fun _ => q4⟩
  have nilv : u = .slice none 0 0 → r = .vs 0 [] → ∃ heap' F', Rel P w0 F0 m D p c F' sl heap' a w ∧ ViewF h heap' ∧ (∀ g j, F g j → F' g j) ∧ (noOwn r = true → Rep w p c F' noD r u) := by
    rintro rfl rfl
    exact ⟨heap, F, hr, hv, fun _ _ h => h, fun _ => .vnil _⟩
  unfold give at hk
  split at hk
  · exact ⟨heap, F, hr, hv, fun _ _ h => h, fun h => by cases h⟩
  · split at hk
    · obtain ⟨rfl, rfl⟩ := hk
      exact nilv hu.ex_inv rfl
    · split at hk
      · rename_i v' fr hp; exact pk hp hk
      · exact hk.elim
  · rename_i b cs
    split at hk
    · rename_i b' cs'
      obtain ⟨rfl, rfl⟩ := hk
      refine ⟨heap, F, hr, hv, fun _ _ h => h, fun _ => ?_⟩
      rcases hu.pt_inv with ⟨rfl, rfl⟩ | ⟨rfl, g, q, u, rfl, h2⟩
      · exact .pt0 _ _
      · exact .pt1 _ _ g q u h2.1 h2.2
    · subst hk
      rw [hu.ex_inv]
      exact ⟨heap, F, hr, hv, fun _ _ h => h, fun _ => .pt0 _ _⟩
    · split at hk
      · rename_i cs' fr hp
        obtain ⟨rfl, rfl⟩ := hk
        obtain ⟨heap', F', q1, q2, q3, q4⟩ := pkV hp
        refine ⟨heap', F', q1, q2, q3, fun _ => ?_⟩
        obtain ⟨g, q, u, rfl, h2⟩ := q4.vp_inv
        exact .pt1 _ _ g q u h2.1 h2.2
      · exact hk.elim
  · split at hk
    · rename_i v' fr hp; exact pk hp hk
    · exact hk.elim
theorem give_own {v : AV} {u : Value} {heap : Hp} {e n : Nat} {ds : List AV} (hr : Rel P w0 F0 m D p c F sl heap a w) (hv : ViewF h heap) (hk : give h v (.own e n ds)) (hu : Rep w p c F D v u) {base : Nat} (hbase : ∀ g, w0.mine g → base ≤ g) :
    OwnOk P base w p0 c0 F e n ds u := by
  unfold give at hk
  simp only at hk
  split at hk
  · rename_i q k
    split at hk
    · rename_i cs e' fz hb
      obtain ⟨rfl, rfl, rfl⟩ := hk
      obtain ⟨hd, hn, rfl⟩ := hu.sl_inv
      obtain ⟨f, k1, _⟩ := hv q _ hb
      have hB := (hr.live q _ k1).2
      cases hp : p q with
      | none =>
        unfold BlkOk at hB
        rw [hp] at hB
        obtain ⟨q1, q2, _⟩ := hB
        simp only at q1
        refine .inl ⟨?_, by omega, q1⟩
        have : n = 0 := by omega
        rw [q2, this]; rfl
      | some g =>
        obtain ⟨us, t, fr, b1, b2, b3, b4, b5⟩ := hB.at hp
        obtain ⟨rfl, b5b, b5c⟩ := b5 _ rfl
        exact .inr ⟨g, c q, us, fr, rfl, hbase g (hr.own q _ g k1 hp), hn, b5c, b1, b2, b5b, b3, fun j hj => (b4 j hj).of_no, fun j hj => (hr.fz q _ g j k1 hp hj).2⟩
    · exact hk.elim
  · obtain ⟨rfl, rfl⟩ := hk
    exact .inl ⟨hu.ex_inv, rfl, rfl⟩
  · exact hk.elim
/-- all results, read and handed back -/
theorem giveL_ok : ∀ {xs : List ResultVar} {rs : List AV} {heap : Hp} {F : Nat → Nat → Prop}, Rel P w0 F0 m D p c F sl h a w → giveL P sl h xs rs → ∀ {F1 : Nat → Nat → Prop} {heap : Hp}, Rel P w0 F0 m D p c F1 sl heap a w → ViewF h heap → (∀ g j, F g j → F1 g j) →
    ∃ (us : List Value) (vs : List AV) (heap' : Hp) (F' : Nat → Nat → Prop), us.length = rs.length ∧ vs.length = rs.length ∧ xs.length = rs.length ∧ Rel P w0 F0 m D p c F' sl heap' a w ∧ ViewF h heap' ∧ (∀ g j, F1 g j → F' g j) ∧
      (∀ j (x : ResultVar), xs[j]? = some x → varOk P a.tmps w x (us.getD j undef)) ∧ (∀ j (hj : j < rs.length), noOwn rs[j] = true → Rep w p c F' noD rs[j] (us.getD j undef)) ∧
      (∀ j (hj : j < rs.length), give h (vs.getD j .unk) rs[j] ∧ Rep w p c F D (vs.getD j .unk) (us.getD j undef))
  | [], [], _, F, hr, hk, F1, heap, hr1, hv, hF => ⟨[], [], heap, F1, rfl, rfl, rfl, hr1, hv, fun _ _ h => h, fun j x h => by simp at h, fun j h => by simp at h, fun j h => by simp at h⟩
  | [], _ :: _, _, F, hr, hk, F1, heap, hr1, hv, hF => hk.elim
  | _ :: _, [], _, F, hr, hk, F1, heap, hr1, hv, hF => hk.elim
  | x :: xs, r :: rs, heap0, F, hr, hk, F1, heap, hr1, hv, hF => by
    obtain ⟨v, u, k1, k2, k3⟩ := resV_ok hr hk.1
    obtain ⟨heap2, F2, g1, g2, g3, g4⟩ := give_ok hr1 hv k1 (k3.mono ⟨fun i hi => ⟨hi, rfl, rfl⟩, hF, fun _ _ _ => rfl⟩)
    obtain ⟨us, vs, heap3, F3, l1, l2, l3, q1, q2, q3, q4, q5, q6⟩ := giveL_ok (heap := heap0) hr hk.2 g1 g2 (fun g j hj => g3 g j (hF g j hj))
    refine ⟨u :: us, v :: vs, heap3, F3, by simp [l1], by simp [l2], by simp [l3], q1, q2, fun g j hj => q3 g j (g3 g j hj), fun j y hy => ?_, fun j hj hn => ?_, fun j hj => ?_⟩
    · cases j with
      | zero => simp at hy; subst hy; exact k2
      | succ j => exact q4 j y (by simpa using hy)
    · cases j with
      | zero => exact (g4 hn).mono ⟨fun i hi => hi.elim, q3, fun _ _ _ => rfl⟩
      | succ j => exact q5 j (Nat.lt_of_succ_lt_succ hj) hn
    · cases j with
      | zero => exact ⟨k1, k3⟩
      | succ j => exact q6 j (Nat.lt_of_succ_lt_succ hj)
theorem noOwnL_spec : ∀ {l : List AV}, noOwnL l = true → ∀ j (h : j < l.length), noOwn l[j] = true
  | [], _, j, h => by simp at h
  | v :: l, hl, j, h => by
    simp only [noOwnL, Bool.and_eq_true] at hl
    cases j with
    | zero => exact hl.1
    | succ j => exact noOwnL_spec hl.2 j (Nat.lt_of_succ_lt_succ h)
theorem repRL_ok {base : Nat} : ∀ {rs : List AV} {us : List Value}, oneOwn rs = true → us.length = rs.length → (∀ j (hj : j < rs.length), noOwn rs[j] = true → Rep w p0 c0 F noD rs[j] (us.getD j undef)) →
    (∀ j (hj : j < rs.length) e n ds, rs[j] = .own e n ds → OwnOk P base w p0 c0 F e n ds (us.getD j undef)) → RepRL P base w p0 c0 F rs us
  | [], [], _, _, _, _ => trivial
  | [], _ :: _, _, h, _, _ => by simp at h
  | _ :: _, [], _, h, _, _ => by simp at h
  | v :: rs, u :: us, h1, h2, h3, h4 => by
    unfold oneOwn at h1
    cases hv : noOwn v with
    | true =>
      rw [hv] at h1
      have ih := repRL_ok (us := us) h1 (by simpa using h2) (fun j hj => h3 (j + 1) (Nat.succ_lt_succ hj)) (fun j hj => h4 (j + 1) (Nat.succ_lt_succ hj))
      have h0 := h3 0 (Nat.zero_lt_succ _) hv
      cases v <;> first | exact ⟨h0, ih⟩ | cases hv
    | false =>
      rw [hv] at h1
      cases v with
      | own e n ds => exact ⟨h4 0 (Nat.zero_lt_succ _) e n ds rfl, by simpa using h2, fun j hj => h3 (j + 1) (Nat.succ_lt_succ hj) (noOwnL_spec h1 j hj)⟩
      | _ => cases hv
theorem mapM_ok {tmps : Array Value} : ∀ {xs : List ResultVar} {us : List Value}, us.length = xs.length → (∀ j (x : ResultVar), xs[j]? = some x → varOk P tmps w x (us.getD j undef)) →
    (xs.mapM (m := Sem) fun
      | .tmp t => pure (tmps.getD t undef)
      | .cell a t => do loadVar t (← asAddr (tmps.getD a undef))).run P w = .ok us w
  | [], [], _, _ => rfl
  | [], _ :: _, h, _ => by simp at h
  | _ :: _, [], h, _ => by simp at h
  | x :: xs, u :: us, h, hk => by
    have h0 := hk 0 x rfl
    have ih := mapM_ok (us := us) (by simpa using h) (fun j y hy => hk (j + 1) y (by simpa using hy))
    unfold varOk at h0
    have e : (u :: us).getD 0 undef = u := rfl
    rw [e] at h0
    rw [List.mapM_cons, Sem.run_bind]
    cases x with
    | tmp t =>
      simp only at h0 ⊢
      rw [h0, Result.andThen_ok, Sem.run_bind, ih]
      rfl
    | cell q t =>
      simp only at h0 ⊢
      rw [h0, Result.andThen_ok, Sem.run_bind, ih]
      rfl
theorem results_ok {fn : Func} {tmps : Array Value} {us : List Value} (h : us.length = fn.results.toList.length) (hk : ∀ j (x : ResultVar), fn.results.toList[j]? = some x → varOk P tmps w x (us.getD j undef)) :
    (results fn tmps).run P w = .ok (match us with | [u] => u | us => .tuple us.toArray) w := by
  have h1 := mapM_ok h hk
  unfold results
  rw [Sem.run_bind, Array.mapM_eq_mapM_toList]
  have h2 : ((Functor.map List.toArray <| fn.results.toList.mapM (m := Sem) fun
      | .tmp t => pure (tmps.getD t undef)
      | .cell a t => do loadVar t (← asAddr (tmps.getD a undef))) : Sem (Array Value)).run P w = .ok us.toArray w := by
    rw [map_eq_pure_bind, Sem.run_bind, h1]; rfl
  refine Eq.trans (congrArg (fun z : Result (Array Value) => z.andThen fun a w' => Sem.run P (pure (if h : a.size = 1 then a[0] else Value.tuple a)) w') h2) ?_
  simp only [Result.andThen_ok]
  match us with
  | [] => rfl
  | [u] => rfl
  | u :: v :: us => simp
end
/-- What abody tells is Sound. -/
theorem sound_of {P : Program} {f : FuncId} {fn : Func} {args : List AV} {r : AV} (hm : P.follows .mixedOrders = true) (hf : P.funcs[f]? = some fn) (hen : ∀ (xs : Array Value) (w : World), (callFunc f xs).run P w = .ok (.enter f xs) w)
    (hle : args.length ≤ fn.ntmps) (hk : abody P (Sound P) fn args r) : Sound P f args r := by
  refine ⟨hen, fun w F xs hs hr hF => ?_⟩
  unfold abody at hk
  split at hk
  case h_2 => exact hk.elim
  rename_i code hb
  refine calls_of_wp hf hb ?_
  have hrel : Rel P ⟨w, fun _ => False, #[]⟩ F ⟨fn.ntmps, 0⟩ (ltD 0) p0 c0 F (startS 0 args) [] { tmps := xs ++ Array.replicate (fn.ntmps - xs.size) undef, defers := [] } w := by
    refine ⟨fun t v ht => ?_, by simp; omega, fun t ht => absurd ht (Nat.not_lt_zero _), rfl, fun r b h => by simp [look] at h, fun r r' b b' g h => by simp [look] at h, fun r b g h => by simp [look] at h, fun g j hj => ⟨hF g j hj, .inl hj⟩, fun r b g j h => by simp [look] at h, fun _ _ h => h, hF, Held.refl _, fun _ _ _ => rfl⟩
    obtain ⟨_, h2⟩ := startS_look ht
    rw [Nat.sub_zero] at h2
    obtain ⟨hlt, he⟩ := List.getElem?_eq_some_iff.1 h2
    have := hr t hlt
    rw [he] at this
    have e : (xs ++ Array.replicate (fn.ntmps - xs.size) undef).getD t undef = xs.getD t undef := by
      rw [Array.getD_eq_getD_getElem?, Array.getElem?_append_left (by omega), Array.getD_eq_getD_getElem?]
    rw [e]; exact this.of_no
  refine avc_ok hm code hk hrel fun e sl' h' nx' p' c' F' a' w' h1 h2 => ?_
  have fin : aret P fn sl' h' r → a'.defers = [] ∧ ∃ v, (results fn a'.tmps).run P w' = .ok v w' ∧ (∃ v' F'', Ending.returned v = .returned v' ∧ Below w.heap.size w w' ∧ (∀ g j, F g j → F'' g j) ∧ (∀ g j, F'' g j → F g j ∨ (w.heap.size ≤ g ∧ g < w'.heap.size)) ∧ RepR P w.heap.size w' p0 c0 F'' r v') := by
    intro h1
    refine ⟨h2.defers, ?_⟩
    have hbel : Below w.heap.size w w' := ⟨h2.below.os, h2.below.tape, h2.below.output, h2.below.size, fun k hk => h2.below.block k (by rintro (e | e); exact absurd e (Nat.not_le.2 hk); exact e)⟩
    have hbase : ∀ g, (Ori.mk w (fun _ => False) #[]).mine g → w.heap.size ≤ g := by rintro g (e | e); exact e; exact e.elim
    have frame : ∀ {F'' : Nat → Nat → Prop} {heap : Hp}, Rel P ⟨w, fun _ => False, #[]⟩ F ⟨fn.ntmps, 0⟩ (ltD nx') p' c' F'' sl' heap a' w' → (∀ g j, F'' g j → F g j ∨ (w.heap.size ≤ g ∧ g < w'.heap.size)) := by
      intro F'' heap hR g j hj
      obtain ⟨q1, q2⟩ := hR.fr g j hj
      rcases q2 with q2 | q2
      · exact .inl q2
      · exact .inr ⟨hbase g q2, q1⟩
    unfold aret at h1
    split at h1
    · rename_i x hx
      obtain ⟨us, vs, heap', F'', l1, l2, l3, q1, q2, q3, q4, q5, q6⟩ := giveL_ok (xs := [x]) (rs := [r]) (heap := h') h2 ⟨h1, trivial⟩ h2 (viewF_of fun r b hb => blk_look hb) (fun _ _ h => h)
      match us, l1 with
      | [u], _ =>
        have hres := results_ok (fn := fn) (tmps := a'.tmps) (us := [u]) (by rw [hx]; rfl) (fun j y hy => q4 j y (by rw [hx] at hy; exact hy))
        refine ⟨u, hres, u, F'', rfl, hbel, fun g j hj => q3 g j (h2.sub g j hj), frame q1, ?_⟩
        have h5 := q5 0 (by simp)
        have h6 := q6 0 (by simp)
        simp only [List.getElem_cons_zero] at h5 h6
        have plain : noOwn r = true → Rep w' p0 c0 F'' noD r u := fun hn => (h5 hn).of_no
        cases r with
        | own e n ds => exact give_own q1 q2 h6.1 (h6.2.mono ⟨fun i hi => ⟨hi, rfl, rfl⟩, q3, fun _ _ _ => rfl⟩) hbase
        | tup rs =>
          obtain ⟨us', rfl, k1, k2⟩ := (plain rfl).tup_inv
          have hno : noOwnL rs = true := by
            have : ∀ (l : List AV) (z : List Value), z.length = l.length → (∀ j (h : j < l.length), Rep w' p0 c0 F'' noD l[j] (z.getD j undef)) → noOwnL l = true := by
              intro l
              induction l with
              | nil => intro _ _ _; rfl
              | cons v l ih =>
                intro z hz hl
                cases z with
                | nil => simp at hz
                | cons y z =>
                  simp only [noOwnL, Bool.and_eq_true]
                  refine ⟨?_, ih z (by simpa using hz) fun j h => hl (j + 1) (Nat.succ_lt_succ h)⟩
                  have := hl 0 (Nat.zero_lt_succ _)
                  cases v <;> first | rfl | (cases this)
            exact this rs us'.toList (by simpa using k1) fun j h => by have := k2 j h; simpa [List.getD] using this
          have hone : oneOwn rs = true := by
            have : ∀ l : List AV, noOwnL l = true → oneOwn l = true := by
              intro l
              induction l with
              | nil => intro _; rfl
              | cons v l ih =>
                intro h
                simp only [noOwnL, Bool.and_eq_true] at h
                unfold oneOwn; rw [h.1]; exact ih h.2
            exact this rs hno
          refine ⟨us'.toList, by simp, repRL_ok hone (by simpa using k1) (fun j hj _ => by have := k2 j hj; simpa [List.getD] using this) fun j hj e n ds he => ?_⟩
          have := noOwnL_spec hno j hj
          rw [he] at this; cases this
        | _ => exact plain rfl
    · rename_i hx
      split at h1
      case h_2 => exact h1.elim
      rename_i rs
      split at h1
      case h_2 => exact h1.elim
      rename_i hone
      obtain ⟨us, vs, heap', F'', l1, l2, l3, q1, q2, q3, q4, q5, q6⟩ := giveL_ok (heap := h') h2 h1 h2 (viewF_of fun r b hb => blk_look hb) (fun _ _ h => h)
      have hres := results_ok (fn := fn) (tmps := a'.tmps) (us := us) (l1.trans l3.symm) q4
      have hn1 : ∀ u, us ≠ [u] := by
        rintro u rfl
        have hl : fn.results.toList.length = 1 := by rw [l3, ← l1]; rfl
        match hm2 : fn.results.toList, hl with
        | [x], _ => exact hx x hm2
      have e : (match us with | [u] => u | us => Value.tuple us.toArray) = .tuple us.toArray := by
        match us, hn1 with
        | [], _ => rfl
        | [u], h => exact absurd rfl (h u)
        | u :: v :: us, _ => rfl
      rw [e] at hres
      refine ⟨_, hres, _, F'', rfl, hbel, fun g j hj => q3 g j (h2.sub g j hj), frame q1, us, rfl, repRL_ok hone l1 (fun j hj hn => (q5 j hj hn).of_no) fun j hj e n ds he => ?_⟩
      have h6 := q6 j hj
      rw [he] at h6
      exact give_own q1 q2 h6.1 (h6.2.mono ⟨fun i hi => ⟨hi, rfl, rfl⟩, q3, fun _ _ _ => rfl⟩) hbase
  cases e with
  | norm => exact fin h1
  | exit i => exact h1.elim
  | ret => exact fin h1
section
variable {P : Program} {w : World} {w0 : Ori} {D : Nat → Prop} {p : Nat → Option Nat} {c : Nat → Nat} {F F0 : Nat → Nat → Prop} {m : Fr} {sl : Sl} {h : Hp} {a : Act}
theorem resLK_ok : ∀ {xs : List ResultVar} {k : List AV → Prop}, Rel P w0 F0 m D p c F sl h a w → resLK P sl h xs k → ∃ (vs : List AV) (us : List Value), k vs ∧ vs.length = xs.length ∧ us.length = xs.length ∧ (∀ j (x : ResultVar), xs[j]? = some x → varOk P a.tmps w x (us.getD j undef)) ∧ (∀ j (hj : j < vs.length), Rep w p c F D vs[j] (us.getD j undef))
  | [], k, hr, hk => ⟨[], [], hk, rfl, rfl, fun j x h => by simp at h, fun j h => by simp at h⟩
  | x :: xs, k, hr, hk => by
    obtain ⟨v, u, h1, h2, h3⟩ := resV_ok hr hk
    obtain ⟨vs, us, k1, k2, k3, k4, k5⟩ := resLK_ok hr h1
    refine ⟨v :: vs, u :: us, k1, by simp [k2], by simp [k3], fun j y hy => ?_, fun j hj => ?_⟩
    · cases j with
      | zero => simp at hy; subst hy; exact h2
      | succ j => exact k4 j y (by simpa using hy)
    · cases j with
      | zero => exact h3
      | succ j => exact k5 j (Nat.lt_of_succ_lt_succ hj)
theorem slotsN_length (sl : Sl) : ∀ (i n : Nat), (slotsN sl i n).length = n
  | _, 0 => rfl
  | i, n + 1 => by simp [slotsN, slotsN_length sl (i + 1) n]
theorem slotsN_at (sl : Sl) : ∀ (i n j : Nat) (h : j < (slotsN sl i n).length), (slotsN sl i n)[j] = slotOf sl (i + j)
  | _, 0, j, h => by simp [slotsN] at h
  | i, n + 1, 0, h => rfl
  | i, n + 1, j + 1, h => by
    have := slotsN_at sl (i + 1) n j (by simp only [slotsN, List.length_cons] at h; omega)
    simp only [slotsN, List.getElem_cons_succ]
    rw [this]; congr 1; omega
theorem packR_rep {rs : List AV} {us : List Value} (hl : us.length = rs.length) (h : ∀ j (hj : j < rs.length), Rep w p c F D rs[j] (us.getD j undef)) : Rep w p c F D (packR rs) (match us with | [u] => u | us => .tuple us.toArray) := by
  have gen : Rep w p c F D (.tup rs) (.tuple us.toArray) := .tup _ _ us.toArray (by simpa using hl) fun j hj => by
    have := h j hj
    rw [getD_toArray]
    exact this
  match rs, us, hl with
  | [], [], _ => exact gen
  | [x], [u], _ => exact h 0 (by simp)
  | x :: y :: rs, u :: v :: us, _ => exact gen
theorem zipB_at : ∀ {bs : List ABlk} {i r : Nat} {b : ABlk}, bs[r - i]? = some b → i ≤ r → look (zipB i bs) r = some (some b)
  | [], i, r, b, h, _ => by simp at h
  | b0 :: bs, i, r, b, h, hle => by
    simp only [zipB]
    rw [look_cons]
    by_cases e : i = r
    · subst e
      rw [Nat.sub_self] at h
      simp at h; subst h
      rw [if_pos rfl]
    · rw [if_neg e]
      refine zipB_at ?_ (by omega)
      rw [show r - i = (r - (i + 1)) + 1 by omega] at h
      simpa using h
end
/-- What abodyM tells is SoundM. -/
theorem sound_ofM {P : Program} {f : FuncId} {fn : Func} {args : List AV} {bs : List ABlk} {n : Nat} {rargs : List AV} {r : AV} {bs' : List ABlk} (hm : P.follows .mixedOrders = true) (hf : P.funcs[f]? = some fn) (hen : ∀ (xs : Array Value) (w : World), (callFunc f xs).run P w = .ok (.enter f xs) w)
    (hle : args.length ≤ fn.ntmps) (hn : n ≤ args.length) (hk : abodyM P (Sound P) fn args bs n rargs r bs') : SoundM P f args bs rargs r bs' := by
  refine ⟨hen, fun w p c F xs hs hr hB hF => ?_⟩
  unfold abodyM at hk
  split at hk
  case h_2 => exact hk.elim
  rename_i code hb
  refine calls_of_wp hf hb ?_
  have tm : ∀ t, t < args.length → (xs ++ Array.replicate (fn.ntmps - xs.size) undef).getD t undef = xs.getD t undef := fun t ht => by
    rw [Array.getD_eq_getD_getElem?, Array.getElem?_append_left (by omega), Array.getD_eq_getD_getElem?]
  have lk : ∀ i b, look (zipB 0 bs) i = some (some b) → bs[i]? = some b := fun i b h => by
    obtain ⟨_, h2⟩ := zipB_look h
    rwa [Nat.sub_zero] at h2
  have hrel : Rel P ⟨w, inM p bs.length, xs⟩ F ⟨fn.ntmps, n⟩ (ltD bs.length) p c F (startS 0 args) (zipB 0 bs) { tmps := xs ++ Array.replicate (fn.ntmps - xs.size) undef, defers := [] } w := by
    refine ⟨fun t v ht => ?_, by simp; omega, fun t ht => tm t (Nat.lt_of_lt_of_le ht hn), rfl, fun i b h => ⟨(List.getElem?_eq_some_iff.1 (lk i b h)).1, hB.live i b (lk i b h)⟩,
      fun i i' b b' g h1 h2 p1 p2 => hB.inj i i' g (List.getElem?_eq_some_iff.1 (lk i b h1)).1 (List.getElem?_eq_some_iff.1 (lk i' b' h2)).1 p1 p2,
      fun i b g h hp => .inr ⟨i, (List.getElem?_eq_some_iff.1 (lk i b h)).1, hp⟩, fun g j hj => ⟨hF g j hj, .inl hj⟩, fun i b g j h hp hj => hB.fz i b g j (lk i b h) hp hj, fun _ _ h => h, hF, Held.refl _, fun _ _ _ => rfl⟩
    obtain ⟨_, h2⟩ := startS_look ht
    rw [Nat.sub_zero] at h2
    obtain ⟨hlt, he⟩ := List.getElem?_eq_some_iff.1 h2
    have := hr t hlt
    rw [he] at this
    have e := tm t hlt
    simp only [e]
    exact this
  refine avc_ok hm code hk hrel fun e sl' h' nx' p' c' F' a' w' h1 h2 => ?_
  have fin : aretM P fn n sl' h' rargs r bs' → a'.defers = [] ∧ ∃ v, (results fn a'.tmps).run P w' = .ok v w' ∧ (∃ v' p'' c'' F'', Ending.returned v = .returned v' ∧ Held ⟨w, inM p bs.length, #[]⟩ w' ∧ (∀ g j, F g j → F'' g j ∧ w'.cell? ⟨g, j, none⟩ = w.cell? ⟨g, j, none⟩) ∧
      (∀ g j, F'' g j → g < w'.heap.size ∧ (F g j ∨ (Ori.mk w (inM p bs.length) #[]).mine g)) ∧ BlksOk P w' p'' c'' F'' bs' ∧ (∀ i g, i < bs'.length → p'' i = some g → (Ori.mk w (inM p bs.length) #[]).mine g) ∧ rargs.length ≤ args.length ∧
      (∀ j (h : j < rargs.length), Rep w' p'' c'' F'' (ltD bs'.length) rargs[j] (xs.getD j undef)) ∧ Rep w' p'' c'' F'' (ltD bs'.length) r v') := by
    intro h1
    refine ⟨h2.defers, ?_⟩
    obtain ⟨rvs, us, k1, k2, k3, k4, k5⟩ := resLK_ok h2 h1
    have hcl := collect_live (h := h') 40 (idsVs (slotsN sl' 0 n ++ rvs)) [] (fun r hr => absurd hr (by simp))
    rw [forceL_eq] at k1
    generalize collect h' 40 (idsVs (slotsN sl' 0 n ++ rvs)) [] = acc at k1 hcl
    split at k1
    case h_2 => exact k1.elim
    rename_i hnd hlen
    have hlen' : (liveB acc h' acc).length = acc.length := Nat.eq_of_beq_eq_true hlen
    obtain ⟨rfl, rfl, rfl⟩ := k1
    have hres := results_ok (fn := fn) (tmps := a'.tmps) (us := us) k3 k4
    have hBs := blks_of (h := h') h2 (fun r b hb => blk_look hb) (nodupN_spec hnd) hlen'
    refine ⟨_, hres, _, pA p' acc, cA c' acc, F', rfl, ⟨h2.below.os, h2.below.tape, h2.below.output, h2.below.size, h2.below.block⟩, fun g j hj => ⟨h2.sub g j hj, h2.cell g j hj⟩, fun g j hj => h2.fr g j hj, hBs, fun i g hi hp => ?_, by rw [renVL_length, slotsN_length]; exact hn, fun j hj => ?_, ?_⟩
    · have hi' : i < acc.length := by rw [← hlen']; exact hi
      simp only [pA, List.getElem?_eq_getElem hi'] at hp
      obtain ⟨b, hb⟩ := hcl acc[i] (List.getElem_mem hi')
      exact h2.own _ b g (blk_look hb) hp
    · rw [renVL_at, slotsN_at, hlen', Nat.zero_add]
      have hj' : j < n := by rw [renVL_length, slotsN_length] at hj; exact hj
      have := h2.keep j hj'
      have h3 := h2.ev_ (.tmp j)
      have e : a'.eval (.tmp j) = a'.tmps.getD j undef := rfl
      rw [e, this] at h3
      exact renV_ok h3
    · rw [hlen']
      exact packR_rep (by rw [renVL_length, k2]; exact k3) fun j hj => by rw [renVL_at]; exact renV_ok (k5 j (by rw [renVL_length] at hj; exact hj))
  cases e with
  | norm => exact fin h1
  | exit i => exact h1.elim
  | ret => exact fin h1
end
end Go.Proofs.Ytjfkfldlmhbnkaa.Av
