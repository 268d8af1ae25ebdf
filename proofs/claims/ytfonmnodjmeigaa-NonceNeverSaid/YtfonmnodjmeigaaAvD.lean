/- The abstract machine: a region that draws its order does what it does in the text's order. No program's law is stated here. No conditions. -/
import Derived.Test.YtfonmnodjmeigaaAv14
namespace Go.Proofs.Ytfonmnodjmeigaa.Av
open Go Go.RowKit
set_option linter.unusedVariables false
set_option linter.unusedSimpArgs false

/-- What was reckoned of an operation. -/
structure Rec where
  o : Oper
  v : AV
  d : Hp
  n : Nat
  nx : Nat
  t : List Nat
  mask : Nat
section
variable (n0 : Nat) (sl0 : Sl) (h0 : Hp)
def putR (r : Rec) (s : Sl) : Sl := match r.o.dst with
  | some d => (d, r.v) :: s
  | none => s
def slR : List Rec → Sl
  | [] => sl0
  | r :: rs => putR r (slR rs)
def dsR : List Rec → List (Nat × Hp)
  | [] => []
  | r :: rs => pushD rs.length r.d (dsR rs)
def rowsR : List Rec → List (Nat × List Nat × List Nat)
  | [] => []
  | r :: rs => (rs.length, r.t ++ keysN r.d, keysN r.d) :: rowsR rs
def nxR : List Rec → Nat
  | [] => n0
  | r :: _ => r.nx + r.n
def slS (S : Nat → Bool) : List Rec → Sl
  | [] => sl0
  | r :: rs => if S rs.length then putR r (slS S rs) else slS S rs
def hpS (S : Nat → Bool) : List Rec → Hp
  | [] => h0
  | r :: rs => if S rs.length then r.d ++ hpS S rs else hpS S rs
def idR (S : Nat → Bool) : List Rec → Nat → Prop
  | [], i => i < n0
  | r :: rs, i => (S rs.length = true ∧ r.nx ≤ i ∧ i < r.nx + r.n) ∨ idR S rs i
end
theorem look_app {α : Type} : ∀ (d h : List (Nat × α)) (r : Nat), look (d ++ h) r = match look d r with | some x => some x | none => look h r
  | [], h, r => rfl
  | (q, v) :: d, h, r => by
    rw [List.cons_append, look_cons, look_cons]
    by_cases e : q = r
    · rw [if_pos e, if_pos e]
    · rw [if_neg e, if_neg e]; exact look_app d h r
theorem look_putR (r : Rec) (s : Sl) (t : Nat) : look (putR r s) t = if r.o.dst = some t then some r.v else look s t := by
  unfold putR
  cases hd : r.o.dst with
  | none => simp
  | some d =>
    simp only [look_cons, Option.some.injEq]
theorem hasBit_le {m j : Nat} (h : hasBit m j = true) : 2 ^ j ≤ m := by
  unfold hasBit at h
  have h1 := Nat.eq_of_beq_eq_true h
  apply Classical.byContradiction
  intro hn
  have : Nat.shiftRight m j = 0 := by
    show m >>> j = 0
    rw [Nat.shiftRight_eq_div_pow, Nat.div_eq_of_lt (by omega)]
  rw [this] at h1
  have h2 : Nat.land 0 1 = 0 := by decide
  rw [h2] at h1; cases h1
theorem hasBit_lt {m j i : Nat} (h : hasBit m j = true) (hm : Nat.blt m (Nat.shiftLeft 1 i) = true) : j < i := by
  have h1 := hasBit_le h
  have h2 : m + 1 ≤ Nat.shiftLeft 1 i := by simpa [Nat.blt, Nat.ble_eq] using hm
  have h3 : Nat.shiftLeft 1 i = 2 ^ i := by show 1 <<< i = 2 ^ i; rw [Nat.shiftLeft_eq, Nat.one_mul]
  rw [h3] at h2
  apply Classical.byContradiction
  intro hn
  have := Nat.pow_le_pow_right (n := 2) (by omega) (show i ≤ j by omega)
  omega
theorem memN_spec {t : Nat} : ∀ {l : List Nat}, memN t l = true ↔ t ∈ l
  | [] => by simp [memN]
  | q :: l => by
    simp only [memN, Bool.or_eq_true, List.mem_cons]
    rw [memN_spec]
    constructor
    · rintro (h | h)
      · exact .inl (Nat.eq_of_beq_eq_true h).symm
      · exact .inr h
    · rintro (h | h)
      · left; subst h; simp
      · exact .inr h
theorem meets_spec : ∀ {l k : List Nat} {t : Nat}, t ∈ l → t ∈ k → meets l k = true
  | [], _, _, h, _ => by cases h
  | q :: l, k, t, h, hk => by
    simp only [meets, Bool.or_eq_true]
    rcases List.mem_cons.1 h with e | e
    · subst e; exact .inl (memN_spec.2 hk)
    · exact .inr (meets_spec e hk)
theorem keysN_look {r : Nat} : ∀ {d : Hp}, look d r ≠ none → r ∈ keysN d
  | [], h => absurd rfl h
  | (q, v) :: d, h => by
    simp only [keysN]
    rw [look_cons] at h
    by_cases e : q = r
    · subst e; simp
    · rw [if_neg e] at h; exact List.mem_cons_of_mem _ (keysN_look h)
theorem restrH_look {h : Hp} {r : Nat} {y : Option ABlk} : ∀ {l : List Nat}, look (restrH h l) r = some y → r ∈ l ∧ look h r = some y
  | [], hk => by simp [restrH, look] at hk
  | q :: l, hk => by
    simp only [restrH] at hk
    cases hq : look h q with
    | none =>
      rw [hq] at hk
      obtain ⟨h1, h2⟩ := restrH_look hk
      exact ⟨by simp [h1], h2⟩
    | some b =>
      rw [hq] at hk
      simp only at hk
      rw [look_cons] at hk
      by_cases e : q = r
      · subst e; rw [if_pos rfl] at hk; injection hk with hk; subst hk; exact ⟨by simp, hq⟩
      · rw [if_neg e] at hk
        obtain ⟨h1, h2⟩ := restrH_look hk
        exact ⟨by simp [h1], h2⟩
theorem rowsOk1_spec {mask : Nat} {fp w : List Nat} : ∀ {l : List (Nat × List Nat × List Nat)}, rowsOk1 mask fp w l = true → ∀ j tj wj, (j, tj, wj) ∈ l → (meets w tj || meets fp wj) = true → hasBit mask j = true
  | [], _, j, tj, wj, h, _ => by cases h
  | (q, tq, wq) :: l, hk, j, tj, wj, h, hc => by
    simp only [rowsOk1] at hk
    rcases List.mem_cons.1 h with e | e
    · simp only [Prod.mk.injEq] at e
      obtain ⟨rfl, rfl, rfl⟩ := e
      rw [hc] at hk
      simp only [Bool.and_eq_true] at hk
      exact hk.1
    · split at hk
      · simp only [Bool.and_eq_true] at hk
        exact rowsOk1_spec hk.2 j tj wj e hc
      · exact rowsOk1_spec hk j tj wj e hc
theorem rowsOk_spec {mask : Nat} {fp w : List Nat} {l : List (Nat × List Nat × List Nat)} (h : rowsOk mask fp w l = true) (j : Nat) (tj wj : List Nat) (hm : (j, tj, wj) ∈ l) (hc : (meets w tj || meets fp wj) = true) : hasBit mask j = true := by
  unfold rowsOk at h
  split at h
  · simp [meets] at hc
  · exact rowsOk1_spec h j tj wj hm hc
theorem told_spec {ms : List Nat} {j : Nat} : ∀ {es : List Edge}, told ms j es = true → ∃ e ∈ es, Region.binds .any e = true ∧ (e.on = j ∨ hasBit (ms.getD e.on 0) j = true)
  | [], h => by cases h
  | e :: l, h => by
    simp only [told, Bool.or_eq_true, Bool.and_eq_true] at h
    rcases h with ⟨h1, h2⟩ | h
    · refine ⟨e, by simp, h1, ?_⟩
      rcases h2 with h2 | h2
      · exact .inl (Nat.eq_of_beq_eq_true h2)
      · exact .inr h2
    · obtain ⟨e', h1, h2⟩ := told_spec h
      exact ⟨e', by simp [h1], h2⟩
theorem bitsOk_spec {ms : List Nat} {mask : Nat} {es : List Edge} : ∀ {i : Nat}, bitsOk ms mask es i = true → ∀ j, j < i → hasBit mask j = true → told ms j es = true
  | 0, _, j, hj, _ => by omega
  | i + 1, h, j, hj, hb => by
    simp only [bitsOk, Bool.and_eq_true] at h
    by_cases e : j = i
    · subst e
      have h1 := h.1
      rw [hb] at h1
      simpa using h1
    · exact bitsOk_spec h.2 j (by omega) hb
theorem edgesOk_spec {i : Nat} : ∀ {es : List Edge}, edgesOk i es = true → ∀ e ∈ es, Region.binds .any e = true → e.on < i
  | [], _, e, h, _ => by cases h
  | q :: l, hk, e, h, hb => by
    simp only [edgesOk, Bool.and_eq_true] at hk
    rcases List.mem_cons.1 h with e1 | e1
    · subst e1
      have h1 := hk.1
      rw [hb] at h1
      have : e.on + 1 ≤ i := by simpa [Nat.blt, Nat.ble_eq] using h1
      omega
    · exact edgesOk_spec hk.2 e e1 hb
theorem sharesOk_spec {ops : Array Oper} {mask : Nat} {o : Oper} : ∀ {l : List Oper} {j0 : Nat}, sharesOk ops mask o j0 l = true → ∀ j q, l[j]? = some q → (meets (dstNames q) (allNames ops o) || meets (dstNames o) (allNames ops q)) = true → hasBit mask (j0 + j) = true
  | [], _, _, j, q, h, _ => by simp at h
  | q0 :: l, j0, hk, j, q, h, hc => by
    simp only [sharesOk, Bool.and_eq_true] at hk
    cases j with
    | zero =>
      simp at h; subst h
      have h1 := hk.1
      rw [hc] at h1
      simpa using h1
    | succ j =>
      have := sharesOk_spec hk.2 j q (by simpa using h) hc
      rw [show j0 + (j + 1) = j0 + 1 + j by omega]; exact this
/-- what drawOk tells of each operation -/
def DrawAt (ops : Array Oper) (ms : List Nat) (i : Nat) (o : Oper) : Prop :=
  (∀ j, hasBit (ms.getD i 0) j = true → j < i ∧ ∃ e ∈ o.after, Region.binds .any e = true ∧ (e.on = j ∨ hasBit (ms.getD e.on 0) j = true)) ∧
  (∀ e ∈ o.after, Region.binds .any e = true → e.on < i) ∧
  (∀ j q, j < i → ops[j]? = some q → (meets (dstNames q) (allNames ops o) || meets (dstNames o) (allNames ops q)) = true → hasBit (ms.getD i 0) j = true)
theorem drawFrom_spec {ops : Array Oper} {ms : List Nat} : ∀ {l : List Oper} {k : List Nat} {i : Nat}, drawFrom ops ops.toList ms i l k = true → (∀ j, l[j]? = ops.toList[i + j]?) → (∀ j, k[j]? = ms[i + j]?) → k.length = l.length ∧ ∀ j o, l[j]? = some o → DrawAt ops ms (i + j) o
  | [], [], i, _, _, _ => ⟨rfl, fun j o h => by simp at h⟩
  | [], _ :: _, i, h, _, _ => by cases h
  | _ :: _, [], i, h, _, _ => by cases h
  | o0 :: l, mask :: k, i, h, hl, hk => by
    simp only [drawFrom, Bool.and_eq_true] at h
    obtain ⟨⟨⟨⟨h1, h2⟩, h3⟩, h4⟩, h5⟩ := h
    obtain ⟨e1, e2⟩ := drawFrom_spec h5 (fun j => by have := hl (j + 1); rw [show i + 1 + j = i + (j + 1) by omega]; simpa using this) (fun j => by have := hk (j + 1); rw [show i + 1 + j = i + (j + 1) by omega]; simpa using this)
    refine ⟨by simp [e1], fun j o ho => ?_⟩
    cases j with
    | succ j => have := e2 j o (by simpa using ho); rw [show i + (j + 1) = i + 1 + j by omega]; exact this
    | zero =>
      simp at ho; subst ho
      rw [Nat.add_zero]
      have hmask : ms.getD i 0 = mask := by have := hk 0; simp at this; simp [List.getD, ← this]
      rw [DrawAt, hmask]
      refine ⟨fun j hj => ?_, fun e he hb => edgesOk_spec h3 e (by simpa using he) hb, fun j q hj hq hc => ?_⟩
      · have hlt := hasBit_lt hj h1
        obtain ⟨e, q1, q2⟩ := told_spec (bitsOk_spec h2 j hlt hj)
        exact ⟨hlt, e, by simpa using q1, q2⟩
      · have := sharesOk_spec h4 j q (by rw [List.getElem?_take_of_lt hj]; simpa using hq) hc
        simpa using this
end Go.Proofs.Ytfonmnodjmeigaa.Av
