/- The abstract machine: a region that draws its order does what it does in the text's order: any order. No program's law is stated here. No conditions. -/
import Derived.Test.YtfonmnodjmeigaaAvF
namespace Go.Proofs.Ytfonmnodjmeigaa.Av
open Go Go.RowKit
set_option linter.unusedVariables false
set_option linter.unusedSimpArgs false

theorem memN_names {x : Operand} {t : Nat} (hx : x = .tmp t) : ∀ {l : List Operand}, x ∈ l → t ∈ namesO l
  | [], h => by cases h
  | y :: l, h => by
    rcases List.mem_cons.1 h with e | e
    · subst e; subst hx; simp [namesO]
    · have := memN_names hx e
      cases y <;> simp [namesO, this]
theorem restr_look {sl : Sl} {t : Nat} {v : AV} : ∀ {l : List Nat}, look (restr sl l) t = some v → t ∈ l ∧ v = slotOf sl t
  | [], h => by simp [restr, look] at h
  | q :: l, h => by
    simp only [restr] at h
    rw [look_cons] at h
    by_cases e : q = t
    · subst e; rw [if_pos rfl] at h; injection h with h; exact ⟨by simp, h.symm⟩
    · rw [if_neg e] at h
      obtain ⟨h1, h2⟩ := restr_look h
      exact ⟨by simp [h1], h2⟩
theorem joinD_all {h0 : Hp} : ∀ (R : List Rec), joinD (dsR R) h0 = hpS h0 (fun _ => true) R
  | [] => rfl
  | r :: rs => by
    have e : joinD (dsR (r :: rs)) h0 = r.d ++ joinD (dsR rs) h0 := by
      simp only [dsR]
      cases hd : r.d <;> rfl
    rw [e, joinD_all rs]; rfl
theorem slR_all {sl0 : Sl} : ∀ (R : List Rec), slR sl0 R = slS sl0 (fun _ => true) R
  | [] => rfl
  | r :: rs => by rw [slR_cons, slR_all rs]; rfl
def un (l : Array Bool) : Nat → Nat
  | 0 => 0
  | n + 1 => un l n + (if l.getD n false then 0 else 1)
theorem getD_set (l : Array Bool) (i k : Nat) (hi : i < l.size) : (l.setIfInBounds i true).getD k false = if i = k then true else l.getD k false := by
  simp only [Array.getD_eq_getD_getElem?, Array.getElem?_setIfInBounds]
  by_cases e : i = k
  · subst e; simp [hi]
  · simp [e]
theorem un_far {l : Array Bool} {i : Nat} (hi : i < l.size) : ∀ {n : Nat}, n ≤ i → un (l.setIfInBounds i true) n = un l n
  | 0, _ => rfl
  | n + 1, h => by
    have h1 : un (l.setIfInBounds i true) (n + 1) = un (l.setIfInBounds i true) n + (if (l.setIfInBounds i true).getD n false then 0 else 1) := rfl
    have h2 : un l (n + 1) = un l n + (if l.getD n false then 0 else 1) := rfl
    rw [h1, h2, un_far hi (n := n) (by omega), getD_set l i n hi, if_neg (show ¬ i = n by omega)]
theorem un_set {l : Array Bool} {i : Nat} (hi : i < l.size) (h0 : l.getD i false = false) : ∀ {n : Nat}, i < n → un (l.setIfInBounds i true) n + 1 = un l n
  | 0, h => by omega
  | n + 1, h => by
    by_cases e : i = n
    · subst e
      have h1 : un (l.setIfInBounds i true) (i + 1) = un (l.setIfInBounds i true) i + (if (l.setIfInBounds i true).getD i false then 0 else 1) := rfl
      have h2 : un l (i + 1) = un l i + (if l.getD i false then 0 else 1) := rfl
      rw [h1, h2, un_far hi (Nat.le_refl _), getD_set l i i hi, if_pos rfl, h0]
      simp
    · have h1 : un (l.setIfInBounds i true) (n + 1) = un (l.setIfInBounds i true) n + (if (l.setIfInBounds i true).getD n false then 0 else 1) := rfl
      have h2 : un l (n + 1) = un l n + (if l.getD n false then 0 else 1) := rfl
      have ih := un_set hi h0 (n := n) (by omega)
      rw [h1, h2, getD_set l i n hi, if_neg e]
      omega
theorem un_zero {l : Array Bool} : ∀ {n : Nat}, un l n = 0 → ∀ i, i < n → l.getD i false = true
  | 0, _, i, h => by omega
  | n + 1, h, i, hi => by
    have h2 : un l (n + 1) = un l n + (if l.getD n false then 0 else 1) := rfl
    rw [h2] at h
    by_cases e : i = n
    · subst e
      cases hb : l.getD i false
      · rw [hb] at h; simp at h
      · rfl
    · exact un_zero (n := n) (by omega) i (by omega)
theorem view_from {h0 : Hp} {mask x : Nat} {y : Option ABlk} : ∀ {R : List Rec}, look (viewOf mask (dsR R) h0) x = some y → look h0 x = some y ∨ ∃ q C, Suf q C R ∧ hasBit mask C.length = true ∧ look q.d x ≠ none
  | [], h => .inl h
  | r :: rs, h => by
    rw [view_cons] at h
    split at h
    · rename_i hb
      by_cases hd : look r.d x = none
      · rw [look_app, hd] at h
        rcases view_from h with h | ⟨q, C, h1, h2⟩
        · exact .inl h
        · exact .inr ⟨q, C, h1.cons, h2⟩
      · exact .inr ⟨r, rs, .head r rs, hb, hd⟩
    · rcases view_from h with h | ⟨q, C, h1, h2⟩
      · exact .inl h
      · exact .inr ⟨q, C, h1.cons, h2⟩
theorem idR_all {P : Program} {ops : Array Oper} {m n0 : Nat} {sl0 : Sl} {h0 : Hp} {ms : List Nat} {S : Nat → Bool} : ∀ {R : List Rec}, AllOk P ops m n0 sl0 h0 ms R → (∀ k, k < R.length → S k = true) → ∀ x, ltD (nxR n0 R) x ↔ idR n0 S R x
  | [], _, _, x => Iff.rfl
  | r :: rs, h, hS, x => by
    have ih := idR_all h.2 (fun k hk => hS k (by simp; omega)) x
    have hnx : r.nx = nxR n0 rs := h.1.2.2.1
    unfold idR
    rw [← ih, hS rs.length (by simp)]
    unfold ltD
    have e : nxR n0 (r :: rs) = r.nx + r.n := rfl
    rw [e]
    simp only [true_and]
    constructor
    · intro h1
      by_cases h2 : x < nxR n0 rs
      · exact .inr h2
      · exact .inl ⟨by omega, h1⟩
    · rintro (h1 | h1)
      · exact h1.2
      · omega
set_option maxHeartbeats 1000000 in
theorem aregD_ok {P : Program} {w w0 : World} {p : Nat → Option Nat} {c : Nat → Nat} {F F0 : Nat → Nat → Prop} {m : Nat} {sl : Sl} {h : Hp} {a : Act} {ops : Array Oper} {Q : Exit → Act → World → Prop} {id nx : Nat} {K : Sl → Hp → Nat → Prop}
    (hm : P.follows .mixedOrders = true) (hk : aregD P (Sound P) ops m sl h nx K) (hr : Rel P w0 F0 m (ltD nx) p c F sl h a w)
    (hQ : ∀ sl' h' nx' p' c' F' a' w', K sl' h' nx' → Rel P w0 F0 m (ltD nx') p' c' F' sl' h' a' w' → Q .normal a' w') : (Code.region id ops true).wp P Q a w := by
  obtain ⟨pre, ms, hdraw, hk⟩ := hk
  obtain ⟨F1, g1, _, _, _⟩ := hr.freezes_ pre (viewF_of fun r b hb => blk_look hb)
  generalize freezes h pre ++ h = h0 at hk g1
  obtain ⟨R, hall, hlen, sl', hsl, hK⟩ := trace (sl0 := sl) (ms := ms) ops.toList ms [] hk (fun _ => rfl) rfl (fun j => by simp) (fun j => by simp) trivial
  have hlen : R.length = ops.size := by simpa using hlen
  obtain ⟨_, hdr⟩ := drawFrom_spec hdraw (fun j => by simp) (fun j => by simp)
  have hdr : ∀ j o, ops[j]? = some o → DrawAt ops ms j o := fun j o ho => by have := hdr j o (by simpa using ho); rwa [Nat.zero_add] at this
  refine wp_region_any hm ?_
  have hr0 : Rel P w0 F0 m (ltD nx) p c F1 sl h0 a { w with drawn := w.drawn + 1 } := g1.world ⟨rfl, rfl, rfl, Nat.le_refl _, fun _ _ => rfl⟩
  have old0 : ∀ x b, look h0 x = some (some b) → x < nx := fun x b hx => (g1.live x b hx).1
  -- all is done
  have fin : ∀ (listed : Array Bool) {a : Act} {w : World} {p : Nat → Option Nat} {c : Nat → Nat} {F : Nat → Nat → Prop}, (∀ i, i < ops.size → listed.getD i false = true) →
      Rel P w0 F0 m (idR nx (fun i => listed.getD i false) R) p c F (slS sl (fun i => listed.getD i false) R) (hpS h0 (fun i => listed.getD i false) R) a w → Q .normal a w := by
    intro listed a w p c F hl hr
    have e1 : slS sl (fun i => listed.getD i false) R = slR sl R := by rw [slR_all]; exact slS_congr fun k hk => hl k (by omega)
    have e2 : hpS h0 (fun i => listed.getD i false) R = joinD (dsR R) h0 := by rw [joinD_all]; exact hpS_congr fun k hk => hl k (by omega)
    rw [e1, e2] at hr
    have hr1 := hr.dom (idR_all hall (S := fun i => listed.getD i false) fun k hk => hl k (by omega))
    exact hQ _ _ _ _ _ _ _ _ hK (hr1.weaken (fun t v ht => .inr (by rw [← hsl t]; exact ht)) fun _ _ h => h)
  -- who waits for whom
  have wait : ∀ {listed : Array Bool} {r : Rec} {B : List Rec}, Suf r B R → (∀ q C, Suf q C R → listed.getD C.length false = true → ∀ j, hasBit q.mask j = true → listed.getD j false = true) →
      (∀ e ∈ r.o.after, Region.binds .any e = true → listed.getD e.on false = true) → ∀ j, hasBit r.mask j = true → listed.getD j false = true := by
    intro listed r B hs hcl hed j hj
    obtain ⟨ho, hmk, _⟩ := (allOk_suf hall hs).1
    rw [hmk] at hj
    obtain ⟨_, e, he, hb, hor⟩ := (hdr _ _ ho).1 j hj
    have hl := hed e he hb
    rcases hor with rfl | hor
    · exact hl
    · have hlt := (hdr _ _ ho).2.1 e he hb
      obtain ⟨q, C, hq, hC⟩ := suf_of (R := R) (i := e.on) (by have := hs.lt; omega)
      have hqm := (allOk_suf hall hq).1.2.1
      refine hcl q C hq (by rw [hC]; exact hl) j ?_
      rw [hqm, hC]; exact hor
  have key : ∀ (fuel : Nat) (listed : Array Bool) {a : Act} {w : World} {p : Nat → Option Nat} {c : Nat → Nat} {F : Nat → Nat → Prop}, listed.size = ops.size → un listed ops.size ≤ fuel →
      (∀ q C, Suf q C R → listed.getD C.length false = true → ∀ j, hasBit q.mask j = true → listed.getD j false = true) →
      Rel P w0 F0 m (idR nx (fun i => listed.getD i false) R) p c F (slS sl (fun i => listed.getD i false) R) (hpS h0 (fun i => listed.getD i false) R) a w → wpAny P .any ops Q fuel listed a w := by
    intro fuel
    induction fuel with
    | zero =>
      intro listed a w p c F hsz hun hcl hr
      have hl := un_zero (l := listed) (n := ops.size) (by omega)
      refine ⟨?_, fin listed hl hr⟩
      cases hrd : Region.ready .any ops listed with
      | nil => rfl
      | cons i l =>
        have hi : i ∈ Region.ready .any ops listed := by rw [hrd]; simp
        obtain ⟨h1, o, ho, _⟩ := mem_ready.1 hi
        have hlt : i < ops.size := (Array.getElem?_eq_some_iff.1 ho).1
        have h2 := hl i hlt
        have : listed.getD i true = listed.getD i false := by
          simp only [Array.getD_eq_getD_getElem?]
          rw [Array.getElem?_eq_getElem (by omega)]; rfl
        rw [this, h2] at h1; cases h1
    | succ fuel ih =>
      intro listed a w p c F hsz hun hcl hr
      have hgt : ∀ i, i < ops.size → listed.getD i true = listed.getD i false := by
        intro i hi
        simp only [Array.getD_eq_getD_getElem?]
        rw [Array.getElem?_eq_getElem (by omega)]; rfl
      refine ⟨fun hrd => ?_, fun i hi => ?_⟩
      · refine fin listed ?_ hr
        intro i
        induction i using Nat.strongRecOn with
        | _ i ihi =>
          intro hi
          cases hb : listed.getD i false with
          | true => rfl
          | false =>
            have ho : ops[i]? = some ops[i] := Array.getElem?_eq_getElem hi
            have : i ∈ Region.ready .any ops listed := mem_ready.2 ⟨by rw [hgt i hi]; exact hb, _, ho, fun e he hbd => by
              have hlt := (hdr i _ ho).2.1 e he hbd
              exact ihi e.on hlt (by omega)⟩
            rw [hrd] at this; cases this
      · obtain ⟨hi0, o, ho, hed⟩ := mem_ready.1 hi
        have hi_lt : i < ops.size := (Array.getElem?_eq_some_iff.1 ho).1
        rw [hgt i hi_lt] at hi0
        obtain ⟨r, B, hs, hB⟩ := suf_of (R := R) (i := i) (by omega)
        obtain ⟨⟨hro, hmk, hnx, hdm, hrows, hcase⟩, hallB⟩ := allOk_suf hall hs
        obtain rfl : r.o = o := by rw [hB, ho] at hro; injection hro with hro; exact hro.symm
        have hbef := wait hs hcl hed
        have hil : i < listed.size := by omega
        -- those behind that are done share nothing with it
        have far : ∀ {q : Rec} {C : List Rec}, Suf q C R → i < C.length → listed.getD C.length false = true → hasBit q.mask i = true → False := by
          intro q C hq hlt hl hb
          have := hcl q C hq hl i hb
          rw [hi0] at this; cases this
        have farN : ∀ {q : Rec} {C : List Rec}, Suf q C R → i < C.length → listed.getD C.length false = true → (meets (dstNames r.o) (allNames ops q.o) || meets (dstNames q.o) (allNames ops r.o)) = true → False := by
          intro q C hq hlt hl hc
          obtain ⟨hqo, hqm, _⟩ := (allOk_suf hall hq).1
          refine far hq hlt hl ?_
          rw [hqm]
          exact (hdr _ _ hqo).2.2 i r.o hlt ho hc
        have nearN : ∀ {q : Rec} {C : List Rec}, Suf q C R → C.length < i → (meets (dstNames q.o) (allNames ops r.o) || meets (dstNames r.o) (allNames ops q.o)) = true → listed.getD C.length false = true := by
          intro q C hq hlt hc
          obtain ⟨hqo, _⟩ := (allOk_suf hall hq).1
          refine hbef _ ?_
          rw [hmk, hB]
          exact (hdr _ _ ho).2.2 C.length q.o hlt hqo hc
        have farR : ∀ {q : Rec} {C : List Rec}, Suf q C R → i < C.length → listed.getD C.length false = true → (meets (keysN q.d) (r.t ++ keysN r.d) || meets q.t (keysN r.d)) = true → False := by
          intro q C hq hlt hl hc
          have hqr := (allOk_suf hall hq).1.2.2.2.2.1
          have hrC : Suf r B C := suf_in hs hq (by omega)
          have := rowsOk_spec hqr _ _ _ (rows_mem hrC) hc
          rw [hB] at this
          exact far hq hlt hl this
        have hdrop : R.drop (R.length - i) = B := by
          obtain ⟨A, rfl⟩ := hs
          have : (A ++ r :: B).length - i = A.length + 1 := by simp; omega
          rw [this]
          simp
        have hname : ∀ t, t ∈ allNames ops r.o → look (slS sl (fun i => listed.getD i false) R) t = look (slR sl B) t := by
          intro t ht
          rw [← hdrop]
          refine slS_same (by omega) (fun q C hq hle hd => ?_) (fun q C hq hlt hd => ?_)
          · rcases Nat.eq_or_lt_of_le hle with e | hlt
            · rw [← e]; exact hi0
            · cases hl : listed.getD C.length false with
              | false => rfl
              | true => exact (farN hq hlt hl (by simp only [Bool.or_eq_true]; exact .inr (meets_spec (t := t) (by simp [dstNames, hd]) ht))).elim
          · exact nearN hq hlt (by simp only [Bool.or_eq_true]; exact .inl (meets_spec (t := t) (by simp [dstNames, hd]) ht))
        have hfresh : ∀ x, r.nx ≤ x → x < r.nx + r.n → ¬ idR nx (fun i => listed.getD i false) R x := by
          intro x h1 h2 h3
          have hn0 : nx ≤ r.nx := ((nx_le hall).2 hs).1
          rcases idR_spec.1 h3 with h4 | ⟨q, C, hq, hl, q1, q2⟩
          · omega
          · rcases Nat.lt_trichotomy C.length i with h5 | h5 | h5
            · have := nx_apart hall hq hs (by omega); omega
            · rw [h5, hi0] at hl; cases hl
            · have := nx_apart hall hs hq (by omega); omega
        -- behind it
        have after : ∀ {a : Act} {x : Value} {w' : World} {D' : Nat → Prop} {p' : Nat → Option Nat} {c' : Nat → Nat} {F' : Nat → Nat → Prop}, Rel P w0 F0 m D' p' c' F' (slS sl (fun i => listed.getD i false) R) (r.d ++ hpS h0 (fun i => listed.getD i false) R) a w' →
            Rep w' p' c' F' D' r.v x → (∀ y, D' y ↔ idR nx (fun i => listed.getD i false) R y ∨ (r.nx ≤ y ∧ y < r.nx + r.n)) → wpAny P .any ops Q fuel (listed.setIfInBounds i true) (a.put r.o.dst x) w' := by
          intro a x w' D' p' c' F' k1 k2 k3
          have hS1 : ∀ k, k ≠ i → (fun k => (listed.setIfInBounds i true).getD k false) k = (fun i => listed.getD i false) k := fun k hk => by simp only; rw [getD_set listed i k hil, if_neg (Ne.symm hk)]
          have hS2 : (fun k => (listed.setIfInBounds i true).getD k false) i = true := by simp only; rw [getD_set listed i i hil, if_pos rfl]
          refine ih (listed.setIfInBounds i true) (p := p') (c := c') (F := F') (by simp [hsz]) (by have := un_set hil hi0 hi_lt; omega) ?_ ?_
          · intro q C hq hl j hj
            rw [getD_set listed i _ hil] at hl
            rw [getD_set listed i _ hil]
            split
            · rfl
            · split at hl
              · rename_i e
                have hqr : q = r ∧ C = B := by
                  obtain ⟨A, hA⟩ := hs
                  obtain ⟨A2, hA2⟩ := hq
                  have h1 := hA.symm.trans hA2
                  have hlA : A.length = A2.length := by have := congrArg List.length h1; simp at this; omega
                  have := List.append_inj h1 hlA
                  injection this.2 with e1 e2
                  exact ⟨e1.symm, e2.symm⟩
                rw [hqr.1] at hj
                exact hbef j hj
              · exact hcl q C hq hl j hj
          · have k4 : Rel P w0 F0 m D' p' c' F' (putR r (slS sl (fun i => listed.getD i false) R)) (r.d ++ hpS h0 (fun i => listed.getD i false) R) (a.put r.o.dst x) w' := by
              unfold putR
              cases hd : r.o.dst with
              | none => exact k1
              | some d => exact k1.put k2 (hdm d hd)
            have k5 : Rel P w0 F0 m (idR nx (fun k => (listed.setIfInBounds i true).getD k false) R) p' c' F' (putR r (slS sl (fun i => listed.getD i false) R)) (r.d ++ hpS h0 (fun i => listed.getD i false) R) (a.put r.o.dst x) w' := by
              refine k4.dom fun y => ?_
              rw [k3, idR_spec, idR_spec]
              constructor
              · rintro (h1 | ⟨q, C, hq, hl, h2⟩)
                · exact .inl (.inl h1)
                · by_cases e : C.length = i
                  · have hqr : q = r := by
                      obtain ⟨A, hA⟩ := hs
                      obtain ⟨A2, hA2⟩ := hq
                      have h1 := hA.symm.trans hA2
                      have hlA : A.length = A2.length := by have := congrArg List.length h1; simp at this; omega
                      have := List.append_inj h1 hlA
                      injection this.2 with e1 e2
                      exact e1.symm
                    subst hqr; exact .inr h2
                  · exact .inl (.inr ⟨q, C, hq, (hS1 _ e).symm.trans hl, h2⟩)
              · rintro ((h1 | ⟨q, C, hq, hl, h2⟩) | h2)
                · exact .inl h1
                · refine .inr ⟨q, C, hq, ?_, h2⟩
                  by_cases e : C.length = i
                  · rw [e]; exact hS2
                  · exact (hS1 _ e).trans hl
                · exact .inr ⟨r, B, hs, by rw [hB]; exact hS2, h2⟩
            refine k5.weaken (fun t v ht => .inr ?_) (fun y b hy => ?_)
            · obtain ⟨A, hA⟩ := hs
              subst hA
              rw [look_putR, ← slS_add hB hi0 hS1 hS2 A fun q C hq hlt hl hd1 hd2 => farN hq hlt hl (by simp only [Bool.or_eq_true]; exact .inl (meets_spec (t := t) (by simp [dstNames, hd1]) (by simp [allNames, dstNames, hd2])))]
              exact ht
            · obtain ⟨A, hA⟩ := hs
              subst hA
              rw [← hpS_add hB hi0 hS1 hS2 A fun q C hq hlt hl hd1 => ?_]
              · exact hy
              · apply Classical.byContradiction
                intro hd2
                refine farR hq hlt hl ?_
                simp only [Bool.or_eq_true]
                exact .inl (meets_spec (t := y) (keysN_look hd2) (List.mem_append_right _ (keysN_look hd1)))
        unfold wpOp
        rw [ho]
        simp only
        rcases hcase with ⟨hv, hd, hn, j, want, g, hg, hgs, hbj, hlk⟩ | ⟨hpass, hok⟩
        · -- it is passed over
          have hgn : g ∈ allNames ops r.o := by simp [allNames, guardNames, hg, hgs]
          have hnw : ¬ Region.wanted r.o (yielded ops a.tmps) = true := by
            have hy := yields hr hgs
            rcases hlk with ⟨b, hb, hne⟩ | ⟨us, hb⟩
            · rw [← hname g hgn] at hb
              have := hy.1 b hb
              simp [Region.wanted, hg, this, hne]
            · rw [← hname g hgn] at hb
              have := hy.2 us hb
              simp [Region.wanted, hg, this]
          rw [if_neg hnw]
          refine after (D' := idR nx (fun i => listed.getD i false) R) (by rw [hd]; exact hr) (by rw [hv]; exact .ex _ _) fun y => ?_
          rw [hn]
          exact ⟨.inl, fun h => by rcases h with h | h; exact h; omega⟩
        · have hw : Region.wanted r.o (yielded ops a.tmps) = true := by
            rcases hpass with hg | ⟨j, want, g, hg, hgs, hbj, hlk⟩
            · simp [Region.wanted, hg]
            · have hgn : g ∈ allNames ops r.o := by simp [allNames, guardNames, hg, hgs]
              rw [← hname g hgn] at hlk
              have := (yields hr hgs).1 want hlk
              simp [Region.wanted, hg, this]
          rw [if_pos hw]
          refine .inl (hok w0 F0 m _ p c F _ _ a w _ Q hr (fun x => ?_) (fun x b hb => ?_) hfresh fun x w' D' p' c' F' k1 k2 k3 => after k1 k2 k3)
          · cases x with
            | tmp t =>
              simp only [ev]
              cases hv : slotOf (restr (slR sl B) (namesO r.o.op.operands.toList)) t with
              | unk => exact .unk _ _
              | _ =>
                have hlk := slotOf_look hv (by simp)
                obtain ⟨h1, h2⟩ := restr_look hlk
                rw [h2]
                have h3 := hname t (by simp [allNames, h1])
                have := hr.ev_ (.tmp t)
                simp only [ev] at this
                unfold slotOf at this ⊢
                rw [h3] at this
                exact this
            | const v => exact .ex _ v
            | global g => exact .unk _ _
            | func f => exact .ex _ _
          · have hb' := blk_look hb
            unfold heapFor at hb'
            obtain ⟨hxt, hb'⟩ := restrH_look hb'
            rw [← hb', ← hdrop]
            refine hpS_same (by omega) (fun q C hq hle hl => ?_) (fun q C hq hlt hd => ?_)
            · rcases Nat.eq_or_lt_of_le hle with e | hlt
              · rw [← e] at hl; exact absurd (hi0.symm.trans hl) (by simp)
              · apply Classical.byContradiction
                intro hd
                refine farR hq hlt hl ?_
                simp only [Bool.or_eq_true]
                exact .inl (meets_spec (t := x) (keysN_look hd) (List.mem_append_left _ hxt))
            · cases hbb : hasBit r.mask C.length with
              | true => exact hbef _ hbb
              | false =>
                cases hl : listed.getD C.length false with
                | false => rfl
                | true =>
                  exfalso
                  have hqB : Suf q C B := suf_in hq hs (by omega)
                  have := rowsOk_spec hrows _ _ _ (rows_mem hqB) (by simp only [Bool.or_eq_true]; exact .inr (meets_spec (t := x) hxt (keysN_look hd)))
                  rw [hbb] at this; cases this
  have hno : ∀ k, (Array.replicate ops.size false).getD k false = false := by
    intro k
    simp only [Array.getD_eq_getD_getElem?, Array.getElem?_replicate]
    split <;> rfl
  have hs0 : ∀ (R : List Rec), slS sl (fun i => (Array.replicate ops.size false).getD i false) R = sl := by
    intro R
    induction R with
    | nil => rfl
    | cons r rs ih => rw [slS_cons, hno, ih]; rfl
  have hh0 : ∀ (R : List Rec), hpS h0 (fun i => (Array.replicate ops.size false).getD i false) R = h0 := by
    intro R
    induction R with
    | nil => rfl
    | cons r rs ih => rw [hpS_cons, hno, ih]; rfl
  have hun : ∀ (l : Array Bool) n, un l n ≤ n := by
    intro l n
    induction n with
    | zero => exact Nat.le_refl _
    | succ n ih => unfold un; split <;> omega
  refine key ops.size _ (p := p) (c := c) (F := F1) (by simp) (hun _ _) (fun q C hq hl => by rw [hno] at hl; cases hl) ?_
  rw [hs0, hh0]
  refine hr0.dom fun x => ?_
  rw [idR_spec]
  constructor
  · rintro (h1 | ⟨q, C, _, hl, _⟩)
    · exact h1
    · rw [hno] at hl; cases hl
  · exact .inl
end Go.Proofs.Ytfonmnodjmeigaa.Av
