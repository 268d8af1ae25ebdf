/- What the claim stands on, Fu10: contracts of functions and plain facts. No conditions. -/
import Derived.Test.YtbaedepmogkkeaaGreatFu9
namespace Go.Proofs.YtbaedepmogkkeaaGreat.Av
open Go Go.RowKit
set_option linter.unusedVariables false
set_option linter.unusedSimpArgs false
section
structure Rec where
 o : Oper
 v : AV
 d : Hp
 n : Nat
 nx : Nat
 t : List Nat
 mask : Nat
section
variable (n0 : Nat) (sl0 : Sl) (h0 : Hp)
def putR (r : Rec) (s : Sl) : Sl := match r.o.dst with
 | some d => (d, r.v) :: s
 | none => s
def slR : List Rec → Sl
 | [] => sl0
 | r :: rs => putR r (slR rs)
def dsR : List Rec → List (Nat × Hp)
 | [] => []
 | r :: rs => pushD rs.length r.d (dsR rs)
def rowsR : List Rec → List (Nat × List Nat × List Nat)
 | [] => []
 | r :: rs => (rs.length, r.t ++ keysN r.d, keysN r.d) :: rowsR rs
def nxR : List Rec → Nat
 | [] => n0
 | r :: _ => r.nx + r.n
def slS (S : Nat → Bool) : List Rec → Sl
 | [] => sl0
 | r :: rs => if S rs.length then putR r (slS S rs) else slS S rs
def hpS (S : Nat → Bool) : List Rec → Hp
 | [] => h0
 | r :: rs => if S rs.length then r.d ++ hpS S rs else hpS S rs
def idR (S : Nat → Bool) : List Rec → Nat → Prop
 | [], i => i < n0
 | r :: rs, i => (S rs.length = true ∧ r.nx ≤ i ∧ i < r.nx + r.n) ∨ idR S rs i
end
theorem look_app {α : Type} : ∀ (d h : List (Nat × α)) (r : Nat), look (d ++ h) r = match look d r with | some x => some x | none => look h r
 | [], h, r => rfl
 | (q, v) :: d, h, r => by
  rw [List.cons_append, look_cons, look_cons]
  by_cases e : q = r
  ·rw [if_pos e, if_pos e]
  ·rw [if_neg e, if_neg e]; exact look_app d h r
theorem look_putR (r : Rec) (s : Sl) (t : Nat) : look (putR r s) t = if r.o.dst = some t then some r.v else look s t := by
 unfold putR
 cases hd : r.o.dst with
 | none => simp
 | some d =>
  simp only [look_cons, Option.some.injEq]
theorem hasBit_le {m j : Nat} (h : hasBit m j = true) : 2 ^ j ≤ m := by
 unfold hasBit at h
 have h1 := Nat.eq_of_beq_eq_true h
 apply Classical.byContradiction
 intro hn
 have : Nat.shiftRight m j = 0 := by
  show m >>> j = 0
  rw [Nat.shiftRight_eq_div_pow, Nat.div_eq_of_lt (by omega)]
 rw [this] at h1
 have h2 : Nat.land 0 1 = 0 := by decide
 rw [h2] at h1; cases h1
theorem hasBit_lt {m j i : Nat} (h : hasBit m j = true) (hm : Nat.blt m (Nat.shiftLeft 1 i) = true) : j < i := by
 have h1 := hasBit_le h
 have h2 : m + 1 ≤ Nat.shiftLeft 1 i := by simpa [Nat.blt, Nat.ble_eq] using hm
 have h3 : Nat.shiftLeft 1 i = 2 ^ i := by show 1 <<< i = 2 ^ i; rw [Nat.shiftLeft_eq, Nat.one_mul]
 rw [h3] at h2
 apply Classical.byContradiction
 intro hn
 have := Nat.pow_le_pow_right (n := 2) (by omega) (show i ≤ j by omega)
 omega
theorem memN_spec {t : Nat} : ∀ {l : List Nat}, memN t l = true ↔ t ∈ l
 | [] => by simp [memN]
 | q :: l => by
  simp only [memN, Bool.or_eq_true, List.mem_cons]
  rw [memN_spec]
  constructor
  ·rintro (h | h)
   ·exact .inl (Nat.eq_of_beq_eq_true h).symm
   ·exact .inr h
  ·rintro (h | h)
   ·left; subst h; simp
   ·exact .inr h
theorem meets_spec : ∀ {l k : List Nat} {t : Nat}, t ∈ l → t ∈ k → meets l k = true
 | [], _, _, h, _ => by cases h
 | q :: l, k, t, h, hk => by
  simp only [meets, Bool.or_eq_true]
  rcases List.mem_cons.1 h with e | e
  ·subst e; exact .inl (memN_spec.2 hk)
  ·exact .inr (meets_spec e hk)
theorem keysN_look {r : Nat} : ∀ {d : Hp}, look d r ≠ none → r ∈ keysN d
 | [], h => absurd rfl h
 | (q, v) :: d, h => by
  simp only [keysN]
  rw [look_cons] at h
  by_cases e : q = r
  ·subst e; simp
  ·rw [if_neg e] at h; exact List.mem_cons_of_mem _ (keysN_look h)
theorem restrH_look {h : Hp} {r : Nat} {y : Option ABlk} : ∀ {l : List Nat}, look (restrH h l) r = some y → r ∈ l ∧ look h r = some y
 | [], hk => by simp [restrH, look] at hk
 | q :: l, hk => by
  simp only [restrH] at hk
  cases hq : look h q with
  | none =>
   rw [hq] at hk
   obtain ⟨h1, h2⟩ := restrH_look hk
   exact ⟨by simp [h1], h2⟩
  | some b =>
   rw [hq] at hk
   simp only at hk
   rw [look_cons] at hk
   by_cases e : q = r
   ·subst e; rw [if_pos rfl] at hk; injection hk with hk; subst hk; exact ⟨by simp, hq⟩
   ·rw [if_neg e] at hk
    obtain ⟨h1, h2⟩ := restrH_look hk
    exact ⟨by simp [h1], h2⟩
theorem rowsOk1_spec {mask : Nat} {fp w : List Nat} : ∀ {l : List (Nat × List Nat × List Nat)}, rowsOk1 mask fp w l = true → ∀ j tj wj, (j, tj, wj) ∈ l → (meets w tj || meets fp wj) = true → hasBit mask j = true
 | [], _, j, tj, wj, h, _ => by cases h
 | (q, tq, wq) :: l, hk, j, tj, wj, h, hc => by
  simp only [rowsOk1] at hk
  rcases List.mem_cons.1 h with e | e
  ·simp only [Prod.mk.injEq] at e
   obtain ⟨rfl, rfl, rfl⟩ := e
   rw [hc] at hk
   simp only [Bool.and_eq_true] at hk
   exact hk.1
  ·split at hk
   ·simp only [Bool.and_eq_true] at hk
    exact rowsOk1_spec hk.2 j tj wj e hc
   ·exact rowsOk1_spec hk j tj wj e hc
theorem rowsOk_spec {mask : Nat} {fp w : List Nat} {l : List (Nat × List Nat × List Nat)} (h : rowsOk mask fp w l = true) (j : Nat) (tj wj : List Nat) (hm : (j, tj, wj) ∈ l) (hc : (meets w tj || meets fp wj) = true) : hasBit mask j = true := by
 unfold rowsOk at h
 split at h
 ·simp [meets] at hc
 ·exact rowsOk1_spec h j tj wj hm hc
theorem told_spec {ms : List Nat} {j : Nat} : ∀ {es : List Edge}, told ms j es = true → ∃ e ∈ es, Region.binds .any e = true ∧ (e.on = j ∨ hasBit (ms.getD e.on 0) j = true)
 | [], h => by cases h
 | e :: l, h => by
  simp only [told, Bool.or_eq_true, Bool.and_eq_true] at h
  rcases h with ⟨h1, h2⟩ | h
  ·refine ⟨e, by simp, h1, ?_⟩
   rcases h2 with h2 | h2
   ·exact .inl (Nat.eq_of_beq_eq_true h2)
   ·exact .inr h2
  ·obtain ⟨e', h1, h2⟩ := told_spec h
   exact ⟨e', by simp [h1], h2⟩
theorem bitsOk_spec {ms : List Nat} {mask : Nat} {es : List Edge} : ∀ {i : Nat}, bitsOk ms mask es i = true → ∀ j, j < i → hasBit mask j = true → told ms j es = true
 | 0, _, j, hj, _ => by omega
 | i + 1, h, j, hj, hb => by
  simp only [bitsOk, Bool.and_eq_true] at h
  by_cases e : j = i
  ·subst e
   have h1 := h.1
   rw [hb] at h1
   simpa using h1
  ·exact bitsOk_spec h.2 j (by omega) hb
theorem edgesOk_spec {i : Nat} : ∀ {es : List Edge}, edgesOk i es = true → ∀ e ∈ es, Region.binds .any e = true → e.on < i
 | [], _, e, h, _ => by cases h
 | q :: l, hk, e, h, hb => by
  simp only [edgesOk, Bool.and_eq_true] at hk
  rcases List.mem_cons.1 h with e1 | e1
  ·subst e1
   have h1 := hk.1
   rw [hb] at h1
   have : e.on + 1 ≤ i := by simpa [Nat.blt, Nat.ble_eq] using h1
   omega
  ·exact edgesOk_spec hk.2 e e1 hb
theorem sharesOk_spec {ops : Array Oper} {mask : Nat} {o : Oper} : ∀ {l : List Oper} {j0 : Nat}, sharesOk ops mask o j0 l = true → ∀ j q, l[j]? = some q → (meets (dstNames q) (allNames ops o) || meets (dstNames o) (allNames ops q)) = true → hasBit mask (j0 + j) = true
 | [], _, _, j, q, h, _ => by simp at h
 | q0 :: l, j0, hk, j, q, h, hc => by
  simp only [sharesOk, Bool.and_eq_true] at hk
  cases j with
  | zero =>
   simp at h; subst h
   have h1 := hk.1
   rw [hc] at h1
   simpa using h1
  | succ j =>
   have := sharesOk_spec hk.2 j q (by simpa using h) hc
   rw [show j0 + (j + 1) = j0 + 1 + j by omega]; exact this
def DrawAt (ops : Array Oper) (ms : List Nat) (i : Nat) (o : Oper) : Prop :=
 (∀ j, hasBit (ms.getD i 0) j = true → j < i ∧ ∃ e ∈ o.after, Region.binds .any e = true ∧ (e.on = j ∨ hasBit (ms.getD e.on 0) j = true)) ∧
 (∀ e ∈ o.after, Region.binds .any e = true → e.on < i) ∧
 (∀ j q, j < i → ops[j]? = some q → (meets (dstNames q) (allNames ops o) || meets (dstNames o) (allNames ops q)) = true → hasBit (ms.getD i 0) j = true)
theorem drawFrom_spec {ops : Array Oper} {ms : List Nat} : ∀ {l : List Oper} {k : List Nat} {i : Nat}, drawFrom ops ops.toList ms i l k = true → (∀ j, l[j]? = ops.toList[i + j]?) → (∀ j, k[j]? = ms[i + j]?) → k.length = l.length ∧ ∀ j o, l[j]? = some o → DrawAt ops ms (i + j) o
 | [], [], i, _, _, _ => ⟨rfl, fun j o h => by simp at h⟩
 | [], _ :: _, i, h, _, _ => by cases h
 | _ :: _, [], i, h, _, _ => by cases h
 | o0 :: l, mask :: k, i, h, hl, hk => by
  simp only [drawFrom, Bool.and_eq_true] at h
  obtain ⟨⟨⟨⟨h1, h2⟩, h3⟩, h4⟩, h5⟩ := h
  obtain ⟨e1, e2⟩ := drawFrom_spec h5 (fun j => by have := hl (j + 1); rw [show i + 1 + j = i + (j + 1) by omega]; simpa using this) (fun j => by have := hk (j + 1); rw [show i + 1 + j = i + (j + 1) by omega]; simpa using this)
  refine ⟨by simp [e1], fun j o ho => ?_⟩
  cases j with
  | succ j => have := e2 j o (by simpa using ho); rw [show i + (j + 1) = i + 1 + j by omega]; exact this
  | zero =>
   simp at ho; subst ho
   rw [Nat.add_zero]
   have hmask : ms.getD i 0 = mask := by have := hk 0; simp at this; simp [List.getD, ← this]
   rw [DrawAt, hmask]
   refine ⟨fun j hj => ?_, fun e he hb => edgesOk_spec h3 e (by simpa using he) hb, fun j q hj hq hc => ?_⟩
   ·have hlt := hasBit_lt hj h1
    obtain ⟨e, q1, q2⟩ := told_spec (bitsOk_spec h2 j hlt hj)
    exact ⟨hlt, e, by simpa using q1, q2⟩
   ·have := sharesOk_spec h4 j q (by rw [List.getElem?_take_of_lt hj]; simpa using hq) hc
    simpa using this
end
section
section
variable (P : Program) (ops : Array Oper) (m : Fr) (n0 : Nat) (sl0 : Sl) (h0 : Hp) (ms : List Nat)
def RecOk (r : Rec) (rs : List Rec) : Prop :=
 ops[rs.length]? = some r.o ∧ r.mask = ms.getD rs.length 0 ∧ r.nx = nxR n0 rs ∧ (∀ d, r.o.dst = some d → d < m.n ∧ m.keep ≤ d) ∧ rowsOk r.mask r.t (keysN r.d) (rowsR rs) = true ∧
 ((r.v = .ex undef ∧ r.d = [] ∧ r.n = 0 ∧ ∃ j want g, r.o.guard = some (j, want) ∧ guardSlot ops j = some g ∧ hasBit r.mask j = true ∧ ((∃ b, look (slR sl0 rs) g = some (.ex (.bool b)) ∧ b ≠ want) ∨ ∃ us, look (slR sl0 rs) g = some (.ex (.tuple us)))) ∨
  ((r.o.guard = none ∨ ∃ j want g, r.o.guard = some (j, want) ∧ guardSlot ops j = some g ∧ hasBit r.mask j = true ∧ look (slR sl0 rs) g = some (.ex (.bool want))) ∧ 
   OpOk P r.o (restr (slR sl0 rs) (namesO r.o.op.operands.toList)) (heapFor r.t r.mask (dsR rs) h0) r.nx r.v r.d r.n))
def AllOk : List Rec → Prop
 | [] => True
 | r :: rs => RecOk P ops m n0 sl0 h0 ms r rs ∧ AllOk rs
end
theorem restr_congr {s s' : Sl} (h : ∀ t, look s t = look s' t) : ∀ l, restr s l = restr s' l
 | [] => rfl
 | t :: l => by
  simp only [restr]
  rw [restr_congr h l]
  unfold slotOf; rw [h t]
theorem look_again {s s' : Sl} {g : Nat} {v : AV} (h : ∀ t, look s t = look s' t) (hv : look s' g = some v) : ∀ t, look ((g, v) :: s) t = look s' t := by
 intro t
 rw [look_cons]
 by_cases e : g = t
 ·subst e; rw [if_pos rfl, hv]
 ·rw [if_neg e]; exact h t
def putD (d : Option Tmp) (v : AV) (sl : Sl) : Sl := match d with
 | some d => (d, v) :: sl
 | none => sl
theorem look_putD (d : Option Tmp) (v : AV) (sl : Sl) (t : Nat) : look (putD d v sl) t = if d = some t then some v else look sl t := by
 cases d with
 | none => simp [putD]
 | some d => simp only [putD, look_cons, Option.some.injEq]
theorem putK_spec {m : Fr} {d : Option Tmp} {v : AV} {sl : Sl} {k : Sl → Prop} (h : putK m d v sl k) : (∀ x, d = some x → x < m.n ∧ m.keep ≤ x) ∧ k (putD d v sl) := by
 unfold putK at h
 cases d with
 | none => exact ⟨(fun x h => by cases h), h⟩
 | some d =>
  simp only at h
  split at h
  ·rename_i hd hd2
   rw [forceV_eq] at h
   have : d + 1 ≤ m.n := by simpa [Nat.blt, Nat.ble_eq] using hd
   exact ⟨fun x hx => by injection hx with hx; subst hx; exact ⟨this, Nat.le_of_ble_eq_true hd2⟩, h⟩
  ·exact h.elim
theorem trace {P : Program} {ops : Array Oper} {m : Fr} {n0 : Nat} {sl0 : Sl} {h0 : Hp} {ms : List Nat} : ∀ (l : List Oper) (k : List Nat) (rs : List Rec) {sl : Sl} {nx : Nat} {K : Sl → Hp → Nat → Prop},
  aopsD P (Sound P) ops m h0 l k rs.length sl (dsR rs) (rowsR rs) nx K → (∀ t, look sl t = look (slR sl0 rs) t) → nx = nxR n0 rs → (∀ j, l[j]? = ops[rs.length + j]?) → (∀ j, k[j]? = ms[rs.length + j]?) → AllOk P ops m n0 sl0 h0 ms rs →
  ∃ R, AllOk P ops m n0 sl0 h0 ms R ∧ R.length = rs.length + l.length ∧ ∃ sl', (∀ t, look sl' t = look (slR sl0 R) t) ∧ K sl' (joinD (dsR R) h0) (nxR n0 R)
 | [], k, rs, sl, nx, K, hk, hs, hn, hl, hm, hall => ⟨rs, hall, rfl, sl, hs, by rw [← hn]; exact hk⟩
 | o :: l, [], rs, sl, nx, K, hk, hs, hn, hl, hm, hall => by unfold aopsD at hk; exact hk.elim
 | o :: l, mask :: k, rs, sl, nx, K, hk, hs, hn, hl, hm, hall => by
  have ho : ops[rs.length]? = some o := by have := hl 0; simpa using this.symm
  have hmask : mask = ms.getD rs.length 0 := by have := hm 0; simp at this; simp [List.getD, ← this]
  have next : ∀ {r : Rec}, RecOk P ops m n0 sl0 h0 ms r rs → ∀ {sl1 : Sl}, (∀ t, look sl1 t = look (putR r (slR sl0 rs)) t) → ∀ {nx1 : Nat}, nx1 = r.nx + r.n →
    aopsD P (Sound P) ops m h0 l k (rs.length + 1) sl1 (pushD rs.length r.d (dsR rs)) ((rs.length, r.t ++ keysN r.d, keysN r.d) :: rowsR rs) nx1 K →
    ∃ R, AllOk P ops m n0 sl0 h0 ms R ∧ R.length = rs.length + (o :: l).length ∧ ∃ sl', (∀ t, look sl' t = look (slR sl0 R) t) ∧ K sl' (joinD (dsR R) h0) (nxR n0 R) := by
   intro r hr sl1 h1 nx1 h2 h3
   obtain ⟨R, q1, q2, q3⟩ := trace l k (r :: rs) h3 h1 h2 (fun j => by have := hl (j + 1); simp only [List.length_cons]; rw [show rs.length + 1 + j = rs.length + (j + 1) by omega]; simpa using this)
    (fun j => by have := hm (j + 1); simp only [List.length_cons]; rw [show rs.length + 1 + j = rs.length + (j + 1) by omega]; simpa using this) ⟨hr, hall⟩
   exact ⟨R, q1, by rw [q2]; simp only [List.length_cons]; omega, q3⟩
  -- an operation that runs
  have run : ∀ {sl1 : Sl}, (∀ t, look sl1 t = look (slR sl0 rs) t) → (o.guard = none ∨ ∃ j want g, o.guard = some (j, want) ∧ guardSlot ops j = some g ∧ hasBit mask j = true ∧ look (slR sl0 rs) g = some (.ex (.bool want))) →
    (forceL (fpX sl1 o (viewOf mask (dsR rs) h0)) fun fp => aop P (Sound P) o (restr sl1 (namesO o.op.operands.toList)) (heapFor fp mask (dsR rs) h0) nx fun v d n => forceL (keysN d) fun ks =>
     match rowsOk mask fp ks (rowsR rs) with
     | true => putK m o.dst v sl1 fun sl => stepN nx n fun nx => aopsD P (Sound P) ops m h0 l k (rs.length + 1) sl (pushD rs.length d (dsR rs)) ((rs.length, fp ++ ks, ks) :: rowsR rs) nx K
     | false => False) →
    ∃ R, AllOk P ops m n0 sl0 h0 ms R ∧ R.length = rs.length + (o :: l).length ∧ ∃ sl', (∀ t, look sl' t = look (slR sl0 R) t) ∧ K sl' (joinD (dsR R) h0) (nxR n0 R) := by
   intro sl1 h1 hg hk
   rw [forceL_eq, restr_congr h1] at hk
   obtain ⟨v, d, n, hok, hk⟩ := aop_ok hk
   rw [forceL_eq] at hk
   split at hk
   case h_2 => exact hk.elim
   rename_i hrows
   obtain ⟨hd, hk⟩ := putK_spec hk
   rw [stepN_eq] at hk
   refine next (r := ⟨o, v, d, n, nx, fpX sl1 o (viewOf mask (dsR rs) h0), mask⟩) ⟨ho, hmask, hn, hd, hrows, .inr ⟨hg, hok⟩⟩ ?_ rfl hk
   intro t
   rw [look_putR, look_putD, h1 t]
  have skip : ∀ {sl1 : Sl}, (∀ t, look sl1 t = look (slR sl0 rs) t) → (∃ j want g, o.guard = some (j, want) ∧ guardSlot ops j = some g ∧ hasBit mask j = true ∧ ((∃ b, look (slR sl0 rs) g = some (.ex (.bool b)) ∧ b ≠ want) ∨ ∃ us, look (slR sl0 rs) g = some (.ex (.tuple us)))) →
    (putK m o.dst (.ex undef) sl1 fun sl => aopsD P (Sound P) ops m h0 l k (rs.length + 1) sl (pushD rs.length [] (dsR rs)) ((rs.length, [], []) :: rowsR rs) nx K) →
    ∃ R, AllOk P ops m n0 sl0 h0 ms R ∧ R.length = rs.length + (o :: l).length ∧ ∃ sl', (∀ t, look sl' t = look (slR sl0 R) t) ∧ K sl' (joinD (dsR R) h0) (nxR n0 R) := by
   intro sl1 h1 hg hk
   obtain ⟨hd, hk⟩ := putK_spec hk
   have rowsF : ∀ (l : List (Nat × List Nat × List Nat)), rowsOk mask [] [] l = true := by
    intro l
    induction l with
    | nil => rfl
    | cons x l ih => obtain ⟨a, b, c⟩ := x; simp [rowsOk, meets, ih]
   refine next (r := ⟨o, .ex undef, [], 0, nx, [], mask⟩) ⟨ho, hmask, hn, hd, rowsF _, .inl ⟨rfl, rfl, rfl, hg⟩⟩ ?_ (by simp) hk
   intro t
   rw [look_putR, look_putD, h1 t]
  unfold aopsD at hk
  split at hk
  ·rename_i hg; exact run hs (.inl hg) hk
  ·rename_i j want hg
   split at hk
   case h_2 => exact hk.elim
   rename_i g hgs hbit
   split at hk
   ·rename_i b hb
    have hlk := slotOf_look hb (by simp)
    rw [hs g] at hlk
    by_cases hbw : b = want
    ·have hlk' := hbw ▸ hlk
     exact run (look_again hs hlk') (.inr ⟨j, want, g, hg, hgs, hbit, hlk'⟩) (hk.1 hbw).out
    ·have hbw' : b = (!want) := by cases b <;> cases want <;> simp_all
     have hlk' := hbw' ▸ hlk
     exact skip (look_again hs hlk') ⟨j, want, g, hg, hgs, hbit, .inl ⟨_, hlk, hbw⟩⟩ (hk.2 hbw').out
   ·rename_i us hb
    have hlk := slotOf_look hb (by simp)
    rw [hs g] at hlk
    exact skip hs ⟨j, want, g, hg, hgs, hbit, .inr ⟨us, hlk⟩⟩ hk
   ·exact hk.elim
end
section
def Suf (q : Rec) (C R : List Rec) : Prop := ∃ A, R = A ++ q :: C
theorem Suf.cons {q r : Rec} {C R : List Rec} (h : Suf q C R) : Suf q C (r :: R) := by
 obtain ⟨A, rfl⟩ := h; exact ⟨r :: A, rfl⟩
theorem Suf.head (r : Rec) (R : List Rec) : Suf r R (r :: R) := ⟨[], rfl⟩
theorem Suf.lt {q : Rec} {C R : List Rec} (h : Suf q C R) : C.length < R.length := by
 obtain ⟨A, rfl⟩ := h; simp; omega
theorem suf_of {R : List Rec} : ∀ {i : Nat}, i < R.length → ∃ q C, Suf q C R ∧ C.length = i := by
 induction R with
 | nil => intro i h; simp at h
 | cons r R ih =>
  intro i h
  by_cases e : i = R.length
  ·exact ⟨r, R, .head r R, e.symm⟩
  ·obtain ⟨q, C, h1, h2⟩ := ih (i := i) (by simp at h; omega)
   exact ⟨q, C, h1.cons, h2⟩
section
variable {n0 : Nat} {sl0 : Sl} {h0 : Hp} {S S' : Nat → Bool}
theorem slS_cons (r : Rec) (rs : List Rec) : slS sl0 S (r :: rs) = if S rs.length then putR r (slS sl0 S rs) else slS sl0 S rs := rfl
theorem hpS_cons (r : Rec) (rs : List Rec) : hpS h0 S (r :: rs) = if S rs.length then r.d ++ hpS h0 S rs else hpS h0 S rs := rfl
theorem slR_cons (r : Rec) (rs : List Rec) : slR sl0 (r :: rs) = putR r (slR sl0 rs) := rfl
theorem view_cons (mask : Nat) (r : Rec) (rs : List Rec) : viewOf mask (dsR (r :: rs)) h0 = if hasBit mask rs.length then r.d ++ viewOf mask (dsR rs) h0 else viewOf mask (dsR rs) h0 := by
 simp only [dsR]
 cases hd : r.d with
 | nil =>
  rw [show pushD rs.length [] (dsR rs) = dsR rs from rfl]
  split <;> rfl
 | cons x d =>
  show (match hasBit mask rs.length with | true => (x :: d) ++ viewOf mask (dsR rs) h0 | false => viewOf mask (dsR rs) h0) = _
  cases h : hasBit mask rs.length <;> rfl
theorem slS_same {t : Nat} : ∀ {R : List Rec} {i : Nat}, i ≤ R.length → (∀ q C, Suf q C R → i ≤ C.length → q.o.dst = some t → S C.length = false) → (∀ q C, Suf q C R → C.length < i → q.o.dst = some t → S C.length = true) →
  look (slS sl0 S R) t = look (slR sl0 (R.drop (R.length - i))) t
 | [], i, hi, _, _ => by simp [slS, slR]
 | r :: rs, i, hi, h1, h2 => by
  by_cases hlt : i ≤ rs.length
  ·have ih := slS_same (t := t) (R := rs) hlt (fun q C hs => h1 q C hs.cons) (fun q C hs => h2 q C hs.cons)
   have e : (r :: rs).drop ((r :: rs).length - i) = rs.drop (rs.length - i) := by
    have : (r :: rs).length - i = (rs.length - i) + 1 := by simp only [List.length_cons]; omega
    rw [this]; rfl
   rw [e, ← ih, slS_cons]
   split
   ·rename_i hS
    rw [look_putR]
    split
    ·rename_i hd
     have := h1 r rs (.head r rs) hlt hd
     rw [hS] at this; cases this
    ·rfl
   ·rfl
  ·have hi' : i = rs.length + 1 := by simp at hi; omega
   have e : (r :: rs).drop ((r :: rs).length - i) = r :: rs := by simp [hi']
   have ih := slS_same (t := t) (R := rs) (i := rs.length) (Nat.le_refl _) (fun q C hs hl => absurd hs.lt (by omega)) (fun q C hs hl => h2 q C hs.cons (by omega))
   rw [Nat.sub_self, List.drop_zero] at ih
   rw [e, slS_cons, slR_cons]
   by_cases hd : r.o.dst = some t
   ·rw [if_pos (h2 r rs (.head r rs) (by omega) hd), look_putR, look_putR, if_pos hd, if_pos hd]
   ·split
    ·rw [look_putR, look_putR, if_neg hd, if_neg hd, ih]
    ·rw [look_putR, if_neg hd, ih]
theorem hpS_same {x mask : Nat} : ∀ {R : List Rec} {i : Nat}, i ≤ R.length → (∀ q C, Suf q C R → i ≤ C.length → S C.length = true → look q.d x = none) → (∀ q C, Suf q C R → C.length < i → look q.d x ≠ none → S C.length = hasBit mask C.length) →
  look (hpS h0 S R) x = look (viewOf mask (dsR (R.drop (R.length - i))) h0) x
 | [], i, hi, _, _ => by simp [hpS, dsR, viewOf]
 | r :: rs, i, hi, h1, h2 => by
  by_cases hlt : i ≤ rs.length
  ·have ih := hpS_same (x := x) (mask := mask) (R := rs) hlt (fun q C hs => h1 q C hs.cons) (fun q C hs => h2 q C hs.cons)
   have e : (r :: rs).drop ((r :: rs).length - i) = rs.drop (rs.length - i) := by
    have : (r :: rs).length - i = (rs.length - i) + 1 := by simp only [List.length_cons]; omega
    rw [this]; rfl
   rw [e, ← ih, hpS_cons]
   split
   ·rename_i hS
    rw [look_app, h1 r rs (.head r rs) hlt hS]
   ·rfl
  ·have hi' : i = rs.length + 1 := by simp at hi; omega
   have e : (r :: rs).drop ((r :: rs).length - i) = r :: rs := by simp [hi']
   have ih := hpS_same (x := x) (mask := mask) (R := rs) (i := rs.length) (Nat.le_refl _) (fun q C hs hl => absurd hs.lt (by omega)) (fun q C hs hl => h2 q C hs.cons (by omega))
   rw [Nat.sub_self, List.drop_zero] at ih
   rw [e, hpS_cons, view_cons]
   by_cases hd : look r.d x = none
   ·cases hb : hasBit mask rs.length <;> cases hS : S rs.length <;> simp [look_app, hd, ih]
   ·have := h2 r rs (.head r rs) (by omega) hd
    cases hb : hasBit mask rs.length
    ·rw [hb] at this; simp [this, ih]
    ·rw [hb] at this; simp [this, look_app, ih]
theorem slS_congr : ∀ {R : List Rec}, (∀ k, k < R.length → S k = S' k) → slS sl0 S R = slS sl0 S' R
 | [], _ => rfl
 | r :: rs, h => by
  rw [slS_cons, slS_cons, h rs.length (by simp), slS_congr (R := rs) fun k hk => h k (by simp; omega)]
theorem hpS_congr : ∀ {R : List Rec}, (∀ k, k < R.length → S k = S' k) → hpS h0 S R = hpS h0 S' R
 | [], _ => rfl
 | r :: rs, h => by
  rw [hpS_cons, hpS_cons, h rs.length (by simp), hpS_congr (R := rs) fun k hk => h k (by simp; omega)]
theorem slS_add {t i : Nat} {r : Rec} {B : List Rec} (hB : B.length = i) (hS : S i = false) (h1 : ∀ k, k ≠ i → S' k = S k) (h2 : S' i = true) : ∀ (A : List Rec),
  (∀ q C, Suf q C (A ++ r :: B) → i < C.length → S C.length = true → r.o.dst = some t → q.o.dst = some t → False) →
  look (slS sl0 S' (A ++ r :: B)) t = if r.o.dst = some t then some r.v else look (slS sl0 S (A ++ r :: B)) t
 | [], _ => by
  have e : slS sl0 S' B = slS sl0 S B := slS_congr fun k hk => h1 k (by omega)
  simp only [List.nil_append]
  rw [slS_cons, slS_cons, hB, h2, hS, e]
  simp [look_putR]
 | q :: A, h => by
  have ih := slS_add hB hS h1 h2 A (fun q' C hs => h q' C hs.cons)
  have hk : i < (A ++ r :: B).length := by simp; omega
  simp only [List.cons_append]
  rw [slS_cons, slS_cons, h1 _ (by omega)]
  split
  ·rename_i hSk
   rw [look_putR, look_putR, ih]
   by_cases hq : q.o.dst = some t
   ·by_cases hr : r.o.dst = some t
    ·exact absurd hq (fun _ => h q _ (.head q _) hk hSk hr hq)
    ·rw [if_pos hq, if_neg hr, if_pos hq]
   ·rw [if_neg hq, if_neg hq]
  ·exact ih
theorem hpS_add {x i : Nat} {r : Rec} {B : List Rec} (hB : B.length = i) (hS : S i = false) (h1 : ∀ k, k ≠ i → S' k = S k) (h2 : S' i = true) : ∀ (A : List Rec),
  (∀ q C, Suf q C (A ++ r :: B) → i < C.length → S C.length = true → look r.d x ≠ none → look q.d x = none) →
  look (hpS h0 S' (A ++ r :: B)) x = look (r.d ++ hpS h0 S (A ++ r :: B)) x
 | [], _ => by
  have e : hpS h0 S' B = hpS h0 S B := hpS_congr fun k hk => h1 k (by omega)
  simp only [List.nil_append]
  rw [hpS_cons, hpS_cons, hB, h2, hS, e]
  simp
 | q :: A, h => by
  have ih := hpS_add hB hS h1 h2 A (fun q' C hs => h q' C hs.cons)
  have hk : i < (A ++ r :: B).length := by simp; omega
  simp only [List.cons_append]
  rw [hpS_cons, hpS_cons, h1 _ (by omega)]
  split
  ·rename_i hSk
   rw [look_app, look_app, look_app, ih, look_app]
   cases hr : look r.d x with
   | none => simp
   | some y =>
    have := h q _ (.head q _) hk hSk (by rw [hr]; simp)
    rw [this]
  ·exact ih
end
section
variable {P : Program} {ops : Array Oper} {m : Fr} {n0 : Nat} {sl0 : Sl} {h0 : Hp} {ms : List Nat} {S S' : Nat → Bool}
theorem allOk_suf : ∀ {R : List Rec}, AllOk P ops m n0 sl0 h0 ms R → ∀ {q C}, Suf q C R → RecOk P ops m n0 sl0 h0 ms q C ∧ AllOk P ops m n0 sl0 h0 ms C
 | [], _, q, C, hs => by obtain ⟨A, h⟩ := hs; cases A <;> cases h
 | r :: rs, h, q, C, hs => by
  obtain ⟨A, hA⟩ := hs
  cases A with
  | nil => injection hA with h1 h2; subst h1 h2; exact h
  | cons _ A => injection hA with _ h2; exact allOk_suf h.2 ⟨A, h2⟩
theorem nx_le : ∀ {R : List Rec}, AllOk P ops m n0 sl0 h0 ms R → n0 ≤ nxR n0 R ∧ ∀ {q C}, Suf q C R → n0 ≤ q.nx ∧ q.nx + q.n ≤ nxR n0 R
 | [], _ => ⟨Nat.le_refl _, fun hs => by have := hs.lt; simp at this⟩
 | r :: rs, h => by
  obtain ⟨h1, h2⟩ := nx_le h.2
  have hnx : r.nx = nxR n0 rs := h.1.2.2.1
  refine ⟨by simp only [nxR]; omega, fun {q C} hs => ?_⟩
  obtain ⟨A, hA⟩ := hs
  cases A with
  | nil => injection hA with e1 e2; subst e1 e2; simp only [nxR]; omega
  | cons _ A =>
   injection hA with _ e2
   have := h2 ⟨A, e2⟩
   simp only [nxR]; omega
theorem suf_in {R B C : List Rec} {q r : Rec} (hq : Suf q C R) (hr : Suf r B R) (hlt : C.length < B.length) : Suf q C B := by
 obtain ⟨A, rfl⟩ := hr
 obtain ⟨A2, hA⟩ := hq
 have h1 : (A2 ++ [q]) ++ C = (A ++ [r]) ++ B := by simpa using hA.symm
 rcases List.append_eq_append_iff.1 h1 with ⟨z, e1, e2⟩ | ⟨z, e1, e2⟩
 ·have := congrArg List.length e2; simp at this; omega
 ·rcases List.eq_nil_or_concat z with rfl | ⟨z, y, rfl⟩
  ·simp at e2; have := congrArg List.length e2; omega
  ·rw [List.concat_eq_append] at e1 e2
   have e3 : q = y := by
    have := congrArg List.reverse e1
    simp at this
    exact this.1
   subst e3
   exact ⟨z, by simpa using e2⟩
theorem nx_apart {R : List Rec} (h : AllOk P ops m n0 sl0 h0 ms R) {q r : Rec} {B C : List Rec} (hq : Suf q C R) (hr : Suf r B R) (hlt : C.length < B.length) : q.nx + q.n ≤ r.nx := by
 obtain ⟨A, rfl⟩ := hr
 obtain ⟨hr1, hB⟩ := allOk_suf h ⟨A, rfl⟩
 have hqB : Suf q C B := suf_in hq ⟨A, rfl⟩ hlt
 rw [hr1.2.2.1]
 exact (nx_le hB).2 hqB |>.2
theorem idR_spec : ∀ {R : List Rec} {x : Nat}, idR n0 S R x ↔ x < n0 ∨ ∃ q C, Suf q C R ∧ S C.length = true ∧ q.nx ≤ x ∧ x < q.nx + q.n
 | [], x => by
  constructor
  ·exact .inl
  ·rintro (h | ⟨q, C, h, _⟩)
   ·exact h
   ·have := h.lt; simp at this
 | r :: rs, x => by
  unfold idR
  rw [idR_spec]
  constructor
  ·rintro (h | h | ⟨q, C, h1, h2⟩)
   ·exact .inr ⟨r, rs, .head r rs, h⟩
   ·exact .inl h
   ·exact .inr ⟨q, C, h1.cons, h2⟩
  ·rintro (h | ⟨q, C, ⟨A, hA⟩, h2⟩)
   ·exact .inr (.inl h)
   ·cases A with
    | nil => injection hA with e1 e2; subst e1 e2; exact .inl h2
    | cons _ A => injection hA with _ e2; exact .inr (.inr ⟨q, C, ⟨A, e2⟩, h2⟩)
theorem rows_mem : ∀ {R : List Rec} {q C}, Suf q C R → (C.length, q.t ++ keysN q.d, keysN q.d) ∈ rowsR R
 | [], q, C, h => by have := h.lt; simp at this
 | r :: rs, q, C, ⟨A, hA⟩ => by
  cases A with
  | nil => injection hA with e1 e2; subst e1 e2; simp [rowsR]
  | cons _ A => injection hA with _ e2; exact List.mem_cons_of_mem _ (rows_mem ⟨A, e2⟩)
end
end
section
theorem restr_look {sl : Sl} {t : Nat} {v : AV} : ∀ {l : List Nat}, look (restr sl l) t = some v → t ∈ l ∧ v = slotOf sl t
 | [], h => by simp [restr, look] at h
 | q :: l, h => by
  simp only [restr] at h
  rw [look_cons] at h
  by_cases e : q = t
  ·subst e; rw [if_pos rfl] at h; injection h with h; exact ⟨by simp, h.symm⟩
  ·rw [if_neg e] at h
   obtain ⟨h1, h2⟩ := restr_look h
   exact ⟨by simp [h1], h2⟩
theorem joinD_all {h0 : Hp} : ∀ (R : List Rec), joinD (dsR R) h0 = hpS h0 (fun _ => true) R
 | [] => rfl
 | r :: rs => by
  have e : joinD (dsR (r :: rs)) h0 = r.d ++ joinD (dsR rs) h0 := by
   simp only [dsR]
   cases hd : r.d <;> rfl
  rw [e, joinD_all rs]; rfl
theorem slR_all {sl0 : Sl} : ∀ (R : List Rec), slR sl0 R = slS sl0 (fun _ => true) R
 | [] => rfl
 | r :: rs => by rw [slR_cons, slR_all rs]; rfl
def un (l : Array Bool) : Nat → Nat
 | 0 => 0
 | n + 1 => un l n + (if l.getD n false then 0 else 1)
theorem getD_set (l : Array Bool) (i k : Nat) (hi : i < l.size) : (l.setIfInBounds i true).getD k false = if i = k then true else l.getD k false := by
 simp only [Array.getD_eq_getD_getElem?, Array.getElem?_setIfInBounds]
 by_cases e : i = k
 ·subst e; simp [hi]
 ·simp [e]
theorem un_far {l : Array Bool} {i : Nat} (hi : i < l.size) : ∀ {n : Nat}, n ≤ i → un (l.setIfInBounds i true) n = un l n
 | 0, _ => rfl
 | n + 1, h => by
  have h1 : un (l.setIfInBounds i true) (n + 1) = un (l.setIfInBounds i true) n + (if (l.setIfInBounds i true).getD n false then 0 else 1) := rfl
  have h2 : un l (n + 1) = un l n + (if l.getD n false then 0 else 1) := rfl
  rw [h1, h2, un_far hi (n := n) (by omega), getD_set l i n hi, if_neg (show ¬ i = n by omega)]
theorem un_set {l : Array Bool} {i : Nat} (hi : i < l.size) (h0 : l.getD i false = false) : ∀ {n : Nat}, i < n → un (l.setIfInBounds i true) n + 1 = un l n
 | 0, h => by omega
 | n + 1, h => by
  by_cases e : i = n
  ·subst e
   have h1 : un (l.setIfInBounds i true) (i + 1) = un (l.setIfInBounds i true) i + (if (l.setIfInBounds i true).getD i false then 0 else 1) := rfl
   have h2 : un l (i + 1) = un l i + (if l.getD i false then 0 else 1) := rfl
   rw [h1, h2, un_far hi (Nat.le_refl _), getD_set l i i hi, if_pos rfl, h0]
   simp
  ·have h1 : un (l.setIfInBounds i true) (n + 1) = un (l.setIfInBounds i true) n + (if (l.setIfInBounds i true).getD n false then 0 else 1) := rfl
   have h2 : un l (n + 1) = un l n + (if l.getD n false then 0 else 1) := rfl
   have ih := un_set hi h0 (n := n) (by omega)
   rw [h1, h2, getD_set l i n hi, if_neg e]
   omega
theorem un_zero {l : Array Bool} : ∀ {n : Nat}, un l n = 0 → ∀ i, i < n → l.getD i false = true
 | 0, _, i, h => by omega
 | n + 1, h, i, hi => by
  have h2 : un l (n + 1) = un l n + (if l.getD n false then 0 else 1) := rfl
  rw [h2] at h
  by_cases e : i = n
  ·subst e
   cases hb : l.getD i false
   ·rw [hb] at h; simp at h
   ·rfl
  ·exact un_zero (n := n) (by omega) i (by omega)
theorem idR_all {P : Program} {ops : Array Oper} {m : Fr} {n0 : Nat} {sl0 : Sl} {h0 : Hp} {ms : List Nat} {S : Nat → Bool} : ∀ {R : List Rec}, AllOk P ops m n0 sl0 h0 ms R → (∀ k, k < R.length → S k = true) → ∀ x, ltD (nxR n0 R) x ↔ idR n0 S R x
 | [], _, _, x => Iff.rfl
 | r :: rs, h, hS, x => by
  have ih := idR_all h.2 (fun k hk => hS k (by simp; omega)) x
  have hnx : r.nx = nxR n0 rs := h.1.2.2.1
  unfold idR
  rw [← ih, hS rs.length (by simp)]
  unfold ltD
  have e : nxR n0 (r :: rs) = r.nx + r.n := rfl
  rw [e]
  simp only [true_and]
  constructor
  ·intro h1
   by_cases h2 : x < nxR n0 rs
   ·exact .inr h2
   ·exact .inl ⟨by omega, h1⟩
  ·rintro (h1 | h1)
   ·exact h1.2
   ·omega
set_option maxHeartbeats 1000000 in
theorem aregD_any {P : Program} {w : World} {w0 : Ori} {p : Nat → Option Nat} {c : Nat → Nat} {F F0 : Nat → Nat → Prop} {m : Fr} {sl : Sl} {h : Hp} {a : Act} {ops : Array Oper} {Q : Exit → Act → World → Prop} {nx : Nat} {K : Sl → Hp → Nat → Prop}
  (hk : aregD P (Sound P) ops m sl h nx K) (hr : Rel P w0 F0 m (ltD nx) p c F sl h a w)
  (hQ : ∀ sl' h' nx' p' c' F' a' w', K sl' h' nx' → Rel P w0 F0 m (ltD nx') p' c' F' sl' h' a' w' → Q .normal a' w') : wpAny P .any ops Q ops.size (Array.replicate ops.size false) a { w with drawn := w.drawn + 1 } := by
 obtain ⟨pre, ms, hdraw, hk⟩ := hk
 obtain ⟨F1, g1, _, _, _⟩ := hr.freezes_ pre (viewF_of fun r b hb => blk_look hb)
 generalize freezes h pre ++ h = h0 at hk g1
 obtain ⟨R, hall, hlen, sl', hsl, hK⟩ := trace (sl0 := sl) (ms := ms) ops.toList ms [] hk (fun _ => rfl) rfl (fun j => by simp) (fun j => by simp) trivial
 have hlen : R.length = ops.size := by simpa using hlen
 obtain ⟨_, hdr⟩ := drawFrom_spec hdraw (fun j => by simp) (fun j => by simp)
 have hdr : ∀ j o, ops[j]? = some o → DrawAt ops ms j o := fun j o ho => by have := hdr j o (by simpa using ho); rwa [Nat.zero_add] at this
 have hr0 : Rel P w0 F0 m (ltD nx) p c F1 sl h0 a { w with drawn := w.drawn + 1 } := g1.world ⟨rfl, rfl, rfl, Nat.le_refl _, fun _ _ => rfl⟩
 have old0 : ∀ x b, look h0 x = some (some b) → x < nx := fun x b hx => (g1.live x b hx).1
 -- all is done
 have fin : ∀ (listed : Array Bool) {a : Act} {w : World} {p : Nat → Option Nat} {c : Nat → Nat} {F : Nat → Nat → Prop}, (∀ i, i < ops.size → listed.getD i false = true) →
   Rel P w0 F0 m (idR nx (fun i => listed.getD i false) R) p c F (slS sl (fun i => listed.getD i false) R) (hpS h0 (fun i => listed.getD i false) R) a w → Q .normal a w := by
  intro listed a w p c F hl hr
  have e1 : slS sl (fun i => listed.getD i false) R = slR sl R := by rw [slR_all]; exact slS_congr fun k hk => hl k (by omega)
  have e2 : hpS h0 (fun i => listed.getD i false) R = joinD (dsR R) h0 := by rw [joinD_all]; exact hpS_congr fun k hk => hl k (by omega)
  rw [e1, e2] at hr
  have hr1 := hr.dom (idR_all hall (S := fun i => listed.getD i false) fun k hk => hl k (by omega))
  exact hQ _ _ _ _ _ _ _ _ hK (hr1.weaken (fun t v ht => .inr (by rw [← hsl t]; exact ht)) fun _ _ h => h)
 -- who waits for whom
 have wait : ∀ {listed : Array Bool} {r : Rec} {B : List Rec}, Suf r B R → (∀ q C, Suf q C R → listed.getD C.length false = true → ∀ j, hasBit q.mask j = true → listed.getD j false = true) →
   (∀ e ∈ r.o.after, Region.binds .any e = true → listed.getD e.on false = true) → ∀ j, hasBit r.mask j = true → listed.getD j false = true := by
  intro listed r B hs hcl hed j hj
  obtain ⟨ho, hmk, _⟩ := (allOk_suf hall hs).1
  rw [hmk] at hj
  obtain ⟨_, e, he, hb, hor⟩ := (hdr _ _ ho).1 j hj
  have hl := hed e he hb
  rcases hor with rfl | hor
  ·exact hl
  ·have hlt := (hdr _ _ ho).2.1 e he hb
   obtain ⟨q, C, hq, hC⟩ := suf_of (R := R) (i := e.on) (by have := hs.lt; omega)
   have hqm := (allOk_suf hall hq).1.2.1
   refine hcl q C hq (by rw [hC]; exact hl) j ?_
   rw [hqm, hC]; exact hor
 have key : ∀ (fuel : Nat) (listed : Array Bool) {a : Act} {w : World} {p : Nat → Option Nat} {c : Nat → Nat} {F : Nat → Nat → Prop}, listed.size = ops.size → un listed ops.size ≤ fuel →
   (∀ q C, Suf q C R → listed.getD C.length false = true → ∀ j, hasBit q.mask j = true → listed.getD j false = true) →
   Rel P w0 F0 m (idR nx (fun i => listed.getD i false) R) p c F (slS sl (fun i => listed.getD i false) R) (hpS h0 (fun i => listed.getD i false) R) a w → wpAny P .any ops Q fuel listed a w := by
  intro fuel
  induction fuel with
  | zero =>
   intro listed a w p c F hsz hun hcl hr
   have hl := un_zero (l := listed) (n := ops.size) (by omega)
   refine ⟨?_, fin listed hl hr⟩
   cases hrd : Region.ready .any ops listed with
   | nil => rfl
   | cons i l =>
    have hi : i ∈ Region.ready .any ops listed := by rw [hrd]; simp
    obtain ⟨h1, o, ho, _⟩ := mem_ready.1 hi
    have hlt : i < ops.size := (Array.getElem?_eq_some_iff.1 ho).1
    have h2 := hl i hlt
    have : listed.getD i true = listed.getD i false := by
     simp only [Array.getD_eq_getD_getElem?]
     rw [Array.getElem?_eq_getElem (by omega)]; rfl
    rw [this, h2] at h1; cases h1
  | succ fuel ih =>
   intro listed a w p c F hsz hun hcl hr
   have hgt : ∀ i, i < ops.size → listed.getD i true = listed.getD i false := by
    intro i hi
    simp only [Array.getD_eq_getD_getElem?]
    rw [Array.getElem?_eq_getElem (by omega)]; rfl
   refine ⟨fun hrd => ?_, fun i hi => ?_⟩
   ·refine fin listed ?_ hr
    intro i
    induction i using Nat.strongRecOn with
    | _ i ihi =>
     intro hi
     cases hb : listed.getD i false with
     | true => rfl
     | false =>
      have ho : ops[i]? = some ops[i] := Array.getElem?_eq_getElem hi
      have : i ∈ Region.ready .any ops listed := mem_ready.2 ⟨by rw [hgt i hi]; exact hb, _, ho, fun e he hbd => by
       have hlt := (hdr i _ ho).2.1 e he hbd
       exact ihi e.on hlt (by omega)⟩
      rw [hrd] at this; cases this
   ·obtain ⟨hi0, o, ho, hed⟩ := mem_ready.1 hi
    have hi_lt : i < ops.size := (Array.getElem?_eq_some_iff.1 ho).1
    rw [hgt i hi_lt] at hi0
    obtain ⟨r, B, hs, hB⟩ := suf_of (R := R) (i := i) (by omega)
    obtain ⟨⟨hro, hmk, hnx, hdm, hrows, hcase⟩, hallB⟩ := allOk_suf hall hs
    obtain rfl : r.o = o := by rw [hB, ho] at hro; injection hro with hro; exact hro.symm
    have hbef := wait hs hcl hed
    have hil : i < listed.size := by omega
    -- those behind that are done share nothing with it
    have far : ∀ {q : Rec} {C : List Rec}, Suf q C R → i < C.length → listed.getD C.length false = true → hasBit q.mask i = true → False := by
     intro q C hq hlt hl hb
     have := hcl q C hq hl i hb
     rw [hi0] at this; cases this
    have farN : ∀ {q : Rec} {C : List Rec}, Suf q C R → i < C.length → listed.getD C.length false = true → (meets (dstNames r.o) (allNames ops q.o) || meets (dstNames q.o) (allNames ops r.o)) = true → False := by
     intro q C hq hlt hl hc
     obtain ⟨hqo, hqm, _⟩ := (allOk_suf hall hq).1
     refine far hq hlt hl ?_
     rw [hqm]
     exact (hdr _ _ hqo).2.2 i r.o hlt ho hc
    have nearN : ∀ {q : Rec} {C : List Rec}, Suf q C R → C.length < i → (meets (dstNames q.o) (allNames ops r.o) || meets (dstNames r.o) (allNames ops q.o)) = true → listed.getD C.length false = true := by
     intro q C hq hlt hc
     obtain ⟨hqo, _⟩ := (allOk_suf hall hq).1
     refine hbef _ ?_
     rw [hmk, hB]
     exact (hdr _ _ ho).2.2 C.length q.o hlt hqo hc
    have farR : ∀ {q : Rec} {C : List Rec}, Suf q C R → i < C.length → listed.getD C.length false = true → (meets (keysN q.d) (r.t ++ keysN r.d) || meets q.t (keysN r.d)) = true → False := by
     intro q C hq hlt hl hc
     have hqr := (allOk_suf hall hq).1.2.2.2.2.1
     have hrC : Suf r B C := suf_in hs hq (by omega)
     have := rowsOk_spec hqr _ _ _ (rows_mem hrC) hc
     rw [hB] at this
     exact far hq hlt hl this
    have hdrop : R.drop (R.length - i) = B := by
     obtain ⟨A, rfl⟩ := hs
     have : (A ++ r :: B).length - i = A.length + 1 := by simp; omega
     rw [this]
     simp
    have hname : ∀ t, t ∈ allNames ops r.o → look (slS sl (fun i => listed.getD i false) R) t = look (slR sl B) t := by
     intro t ht
     rw [← hdrop]
     refine slS_same (by omega) (fun q C hq hle hd => ?_) (fun q C hq hlt hd => ?_)
     ·rcases Nat.eq_or_lt_of_le hle with e | hlt
      ·rw [← e]; exact hi0
      ·cases hl : listed.getD C.length false with
       | false => rfl
       | true => exact (farN hq hlt hl (by simp only [Bool.or_eq_true]; exact .inr (meets_spec (t := t) (by simp [dstNames, hd]) ht))).elim
     ·exact nearN hq hlt (by simp only [Bool.or_eq_true]; exact .inl (meets_spec (t := t) (by simp [dstNames, hd]) ht))
    have hfresh : ∀ x, r.nx ≤ x → x < r.nx + r.n → ¬ idR nx (fun i => listed.getD i false) R x := by
     intro x h1 h2 h3
     have hn0 : nx ≤ r.nx := ((nx_le hall).2 hs).1
     rcases idR_spec.1 h3 with h4 | ⟨q, C, hq, hl, q1, q2⟩
     ·omega
     ·rcases Nat.lt_trichotomy C.length i with h5 | h5 | h5
      ·have := nx_apart hall hq hs (by omega); omega
      ·rw [h5, hi0] at hl; cases hl
      ·have := nx_apart hall hs hq (by omega); omega
    -- behind it
    have after : ∀ {a : Act} {x : Value} {w' : World} {D' : Nat → Prop} {p' : Nat → Option Nat} {c' : Nat → Nat} {F' : Nat → Nat → Prop}, Rel P w0 F0 m D' p' c' F' (slS sl (fun i => listed.getD i false) R) (r.d ++ hpS h0 (fun i => listed.getD i false) R) a w' →
      Rep w' p' c' F' D' r.v x → (∀ y, D' y ↔ idR nx (fun i => listed.getD i false) R y ∨ (r.nx ≤ y ∧ y < r.nx + r.n)) → wpAny P .any ops Q fuel (listed.setIfInBounds i true) (a.put r.o.dst x) w' := by
     intro a x w' D' p' c' F' k1 k2 k3
     have hS1 : ∀ k, k ≠ i → (fun k => (listed.setIfInBounds i true).getD k false) k = (fun i => listed.getD i false) k := fun k hk => by simp only; rw [getD_set listed i k hil, if_neg (Ne.symm hk)]
     have hS2 : (fun k => (listed.setIfInBounds i true).getD k false) i = true := by simp only; rw [getD_set listed i i hil, if_pos rfl]
     refine ih (listed.setIfInBounds i true) (p := p') (c := c') (F := F') (by simp [hsz]) (by have := un_set hil hi0 hi_lt; omega) ?_ ?_
     ·intro q C hq hl j hj
      rw [getD_set listed i _ hil] at hl
      rw [getD_set listed i _ hil]
      split
      ·rfl
      ·split at hl
       ·rename_i e
        have hqr : q = r ∧ C = B := by
         obtain ⟨A, hA⟩ := hs
         obtain ⟨A2, hA2⟩ := hq
         have h1 := hA.symm.trans hA2
         have hlA : A.length = A2.length := by have := congrArg List.length h1; simp at this; omega
         have := List.append_inj h1 hlA
         injection this.2 with e1 e2
         exact ⟨e1.symm, e2.symm⟩
        rw [hqr.1] at hj
        exact hbef j hj
       ·exact hcl q C hq hl j hj
     ·have k4 : Rel P w0 F0 m D' p' c' F' (putR r (slS sl (fun i => listed.getD i false) R)) (r.d ++ hpS h0 (fun i => listed.getD i false) R) (a.put r.o.dst x) w' := by
       unfold putR
       cases hd : r.o.dst with
       | none => exact k1
       | some d => exact k1.put k2 (hdm d hd).1 (hdm d hd).2
      have k5 : Rel P w0 F0 m (idR nx (fun k => (listed.setIfInBounds i true).getD k false) R) p' c' F' (putR r (slS sl (fun i => listed.getD i false) R)) (r.d ++ hpS h0 (fun i => listed.getD i false) R) (a.put r.o.dst x) w' := by
       refine k4.dom fun y => ?_
       rw [k3, idR_spec, idR_spec]
       constructor
       ·rintro (h1 | ⟨q, C, hq, hl, h2⟩)
        ·exact .inl (.inl h1)
        ·by_cases e : C.length = i
         ·have hqr : q = r := by
           obtain ⟨A, hA⟩ := hs
           obtain ⟨A2, hA2⟩ := hq
           have h1 := hA.symm.trans hA2
           have hlA : A.length = A2.length := by have := congrArg List.length h1; simp at this; omega
           have := List.append_inj h1 hlA
           injection this.2 with e1 e2
           exact e1.symm
          subst hqr; exact .inr h2
         ·exact .inl (.inr ⟨q, C, hq, (hS1 _ e).symm.trans hl, h2⟩)
       ·rintro ((h1 | ⟨q, C, hq, hl, h2⟩) | h2)
        ·exact .inl h1
        ·refine .inr ⟨q, C, hq, ?_, h2⟩
         by_cases e : C.length = i
         ·rw [e]; exact hS2
         ·exact (hS1 _ e).trans hl
        ·exact .inr ⟨r, B, hs, by rw [hB]; exact hS2, h2⟩
      refine k5.weaken (fun t v ht => .inr ?_) (fun y b hy => ?_)
      ·obtain ⟨A, hA⟩ := hs
       subst hA
       rw [look_putR, ← slS_add hB hi0 hS1 hS2 A fun q C hq hlt hl hd1 hd2 => farN hq hlt hl (by simp only [Bool.or_eq_true]; exact .inl (meets_spec (t := t) (by simp [dstNames, hd1]) (by simp [allNames, dstNames, hd2])))]
       exact ht
      ·obtain ⟨A, hA⟩ := hs
       subst hA
       rw [← hpS_add hB hi0 hS1 hS2 A fun q C hq hlt hl hd1 => ?_]
       ·exact hy
       ·apply Classical.byContradiction
        intro hd2
        refine farR hq hlt hl ?_
        simp only [Bool.or_eq_true]
        exact .inl (meets_spec (t := y) (keysN_look hd2) (List.mem_append_right _ (keysN_look hd1)))
    unfold wpOp
    rw [ho]
    simp only
    rcases hcase with ⟨hv, hd, hn, j, want, g, hg, hgs, hbj, hlk⟩ | ⟨hpass, hok⟩
    · -- it is passed over
     have hgn : g ∈ allNames ops r.o := by simp [allNames, guardNames, hg, hgs]
     have hnw : ¬ Region.wanted r.o (yielded ops a.tmps) = true := by
      have hy := yields hr hgs
      rcases hlk with ⟨b, hb, hne⟩ | ⟨us, hb⟩
      ·rw [← hname g hgn] at hb
       have := hy.1 b hb
       simp [Region.wanted, hg, this, hne]
      ·rw [← hname g hgn] at hb
       have := hy.2 us hb
       simp [Region.wanted, hg, this]
     rw [if_neg hnw]
     refine after (D' := idR nx (fun i => listed.getD i false) R) (by rw [hd]; exact hr) (by rw [hv]; exact .ex _ _) fun y => ?_
     rw [hn]
     exact ⟨.inl, fun h => by rcases h with h | h; exact h; omega⟩
    ·have hw : Region.wanted r.o (yielded ops a.tmps) = true := by
      rcases hpass with hg | ⟨j, want, g, hg, hgs, hbj, hlk⟩
      ·simp [Region.wanted, hg]
      ·have hgn : g ∈ allNames ops r.o := by simp [allNames, guardNames, hg, hgs]
       rw [← hname g hgn] at hlk
       have := (yields hr hgs).1 want hlk
       simp [Region.wanted, hg, this]
     rw [if_pos hw]
     refine .inl (hok w0 F0 m _ p c F _ _ a w _ Q hr (fun x => ?_) (fun x b hb => ?_) hfresh fun x w' D' p' c' F' k1 k2 k3 => after k1 k2 k3)
     ·cases x with
      | tmp t =>
       simp only [ev]
       cases hv : slotOf (restr (slR sl B) (namesO r.o.op.operands.toList)) t with
       | unk => exact .unk _ _
       | _ =>
        have hlk := slotOf_look hv (by simp)
        obtain ⟨h1, h2⟩ := restr_look hlk
        rw [h2]
        have h3 := hname t (by simp [allNames, h1])
        have := hr.ev_ (.tmp t)
        simp only [ev] at this
        unfold slotOf at this ⊢
        rw [h3] at this
        exact this
      | const v => exact .ex _ v
      | global g => exact .unk _ _
      | func f => exact .ex _ _
     ·have hb' := blk_look hb
      unfold heapFor at hb'
      obtain ⟨hxt, hb'⟩ := restrH_look hb'
      rw [← hb', ← hdrop]
      refine hpS_same (by omega) (fun q C hq hle hl => ?_) (fun q C hq hlt hd => ?_)
      ·rcases Nat.eq_or_lt_of_le hle with e | hlt
       ·rw [← e] at hl; exact absurd (hi0.symm.trans hl) (by simp)
       ·apply Classical.byContradiction
        intro hd
        refine farR hq hlt hl ?_
        simp only [Bool.or_eq_true]
        exact .inl (meets_spec (t := x) (keysN_look hd) (List.mem_append_left _ hxt))
      ·cases hbb : hasBit r.mask C.length with
       | true => exact hbef _ hbb
       | false =>
        cases hl : listed.getD C.length false with
        | false => rfl
        | true =>
         exfalso
         have hqB : Suf q C B := suf_in hq hs (by omega)
         have := rowsOk_spec hrows _ _ _ (rows_mem hqB) (by simp only [Bool.or_eq_true]; exact .inr (meets_spec (t := x) hxt (keysN_look hd)))
         rw [hbb] at this; cases this
 have hno : ∀ k, (Array.replicate ops.size false).getD k false = false := by
  intro k
  simp only [Array.getD_eq_getD_getElem?, Array.getElem?_replicate]
  split <;> rfl
 have hs0 : ∀ (R : List Rec), slS sl (fun i => (Array.replicate ops.size false).getD i false) R = sl := by
  intro R
  induction R with
  | nil => rfl
  | cons r rs ih => rw [slS_cons, hno, ih]; rfl
 have hh0 : ∀ (R : List Rec), hpS h0 (fun i => (Array.replicate ops.size false).getD i false) R = h0 := by
  intro R
  induction R with
  | nil => rfl
  | cons r rs ih => rw [hpS_cons, hno, ih]; rfl
 have hun : ∀ (l : Array Bool) n, un l n ≤ n := by
  intro l n
  induction n with
  | zero => exact Nat.le_refl _
  | succ n ih => unfold un; split <;> omega
 refine key ops.size _ (p := p) (c := c) (F := F1) (by simp) (hun _ _) (fun q C hq hl => by rw [hno] at hl; cases hl) ?_
 rw [hs0, hh0]
 refine hr0.dom fun x => ?_
 rw [idR_spec]
 constructor
 ·rintro (h1 | ⟨q, C, _, hl, _⟩)
  ·exact h1
  ·rw [hno] at hl; cases hl
 ·exact .inl
end
end Go.Proofs.YtbaedepmogkkeaaGreat.Av
