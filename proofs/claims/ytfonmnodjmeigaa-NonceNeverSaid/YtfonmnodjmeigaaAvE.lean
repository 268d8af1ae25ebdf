/- The abstract machine: a region that draws its order does what it does in the text's order: the proof. No program's law is stated here. No conditions. -/
import Derived.Test.YtfonmnodjmeigaaAvD
namespace Go.Proofs.Ytfonmnodjmeigaa.Av
open Go Go.RowKit
set_option linter.unusedVariables false
set_option linter.unusedSimpArgs false

section
variable (P : Program) (ops : Array Oper) (m n0 : Nat) (sl0 : Sl) (h0 : Hp) (ms : List Nat)
def RecOk (r : Rec) (rs : List Rec) : Prop :=
  ops[rs.length]? = some r.o ∧ r.mask = ms.getD rs.length 0 ∧ r.nx = nxR n0 rs ∧ (∀ d, r.o.dst = some d → d < m) ∧ rowsOk r.mask r.t (keysN r.d) (rowsR rs) = true ∧
  ((r.v = .ex undef ∧ r.d = [] ∧ r.n = 0 ∧ ∃ j want g, r.o.guard = some (j, want) ∧ guardSlot ops j = some g ∧ hasBit r.mask j = true ∧ ((∃ b, look (slR sl0 rs) g = some (.ex (.bool b)) ∧ b ≠ want) ∨ ∃ us, look (slR sl0 rs) g = some (.ex (.tuple us)))) ∨
   ((r.o.guard = none ∨ ∃ j want g, r.o.guard = some (j, want) ∧ guardSlot ops j = some g ∧ hasBit r.mask j = true ∧ look (slR sl0 rs) g = some (.ex (.bool want))) ∧ 
     OpOk P r.o (restr (slR sl0 rs) (namesO r.o.op.operands.toList)) (heapFor r.t r.mask (dsR rs) h0) r.nx r.v r.d r.n))
def AllOk : List Rec → Prop
  | [] => True
  | r :: rs => RecOk P ops m n0 sl0 h0 ms r rs ∧ AllOk rs
end
theorem restr_congr {s s' : Sl} (h : ∀ t, look s t = look s' t) : ∀ l, restr s l = restr s' l
  | [] => rfl
  | t :: l => by
    simp only [restr]
    rw [restr_congr h l]
    unfold slotOf; rw [h t]
theorem look_again {s s' : Sl} {g : Nat} {v : AV} (h : ∀ t, look s t = look s' t) (hv : look s' g = some v) : ∀ t, look ((g, v) :: s) t = look s' t := by
  intro t
  rw [look_cons]
  by_cases e : g = t
  · subst e; rw [if_pos rfl, hv]
  · rw [if_neg e]; exact h t
def putD (d : Option Tmp) (v : AV) (sl : Sl) : Sl := match d with
  | some d => (d, v) :: sl
  | none => sl
theorem look_putD (d : Option Tmp) (v : AV) (sl : Sl) (t : Nat) : look (putD d v sl) t = if d = some t then some v else look sl t := by
  cases d with
  | none => simp [putD]
  | some d => simp only [putD, look_cons, Option.some.injEq]
theorem putK_spec {m : Nat} {d : Option Tmp} {v : AV} {sl : Sl} {k : Sl → Prop} (h : putK m d v sl k) : (∀ x, d = some x → x < m) ∧ k (putD d v sl) := by
  unfold putK at h
  cases d with
  | none => exact ⟨(fun x h => by cases h), h⟩
  | some d =>
    simp only at h
    split at h
    · rename_i hd
      rw [forceV_eq] at h
      have : d + 1 ≤ m := by simpa [Nat.blt, Nat.ble_eq] using hd
      exact ⟨fun x hx => by injection hx with hx; subst hx; exact this, h⟩
    · exact h.elim
theorem trace {P : Program} {ops : Array Oper} {m n0 : Nat} {sl0 : Sl} {h0 : Hp} {ms : List Nat} : ∀ (l : List Oper) (k : List Nat) (rs : List Rec) {sl : Sl} {nx : Nat} {K : Sl → Hp → Nat → Prop},
    aopsD P (Sound P) ops m h0 l k rs.length sl (dsR rs) (rowsR rs) nx K → (∀ t, look sl t = look (slR sl0 rs) t) → nx = nxR n0 rs → (∀ j, l[j]? = ops[rs.length + j]?) → (∀ j, k[j]? = ms[rs.length + j]?) → AllOk P ops m n0 sl0 h0 ms rs →
    ∃ R, AllOk P ops m n0 sl0 h0 ms R ∧ R.length = rs.length + l.length ∧ ∃ sl', (∀ t, look sl' t = look (slR sl0 R) t) ∧ K sl' (joinD (dsR R) h0) (nxR n0 R)
  | [], k, rs, sl, nx, K, hk, hs, hn, hl, hm, hall => ⟨rs, hall, rfl, sl, hs, by rw [← hn]; exact hk⟩
  | o :: l, [], rs, sl, nx, K, hk, hs, hn, hl, hm, hall => by unfold aopsD at hk; exact hk.elim
  | o :: l, mask :: k, rs, sl, nx, K, hk, hs, hn, hl, hm, hall => by
    have ho : ops[rs.length]? = some o := by have := hl 0; simpa using this.symm
    have hmask : mask = ms.getD rs.length 0 := by have := hm 0; simp at this; simp [List.getD, ← this]
    have next : ∀ {r : Rec}, RecOk P ops m n0 sl0 h0 ms r rs → ∀ {sl1 : Sl}, (∀ t, look sl1 t = look (putR r (slR sl0 rs)) t) → ∀ {nx1 : Nat}, nx1 = r.nx + r.n →
        aopsD P (Sound P) ops m h0 l k (rs.length + 1) sl1 (pushD rs.length r.d (dsR rs)) ((rs.length, r.t ++ keysN r.d, keysN r.d) :: rowsR rs) nx1 K →
        ∃ R, AllOk P ops m n0 sl0 h0 ms R ∧ R.length = rs.length + (o :: l).length ∧ ∃ sl', (∀ t, look sl' t = look (slR sl0 R) t) ∧ K sl' (joinD (dsR R) h0) (nxR n0 R) := by
      intro r hr sl1 h1 nx1 h2 h3
      obtain ⟨R, q1, q2, q3⟩ := trace l k (r :: rs) h3 h1 h2 (fun j => by have := hl (j + 1); simp only [List.length_cons]; rw [show rs.length + 1 + j = rs.length + (j + 1) by omega]; simpa using this)
        (fun j => by have := hm (j + 1); simp only [List.length_cons]; rw [show rs.length + 1 + j = rs.length + (j + 1) by omega]; simpa using this) ⟨hr, hall⟩
      exact ⟨R, q1, by rw [q2]; simp only [List.length_cons]; omega, q3⟩
    -- an operation that runs
    have run : ∀ {sl1 : Sl}, (∀ t, look sl1 t = look (slR sl0 rs) t) → (o.guard = none ∨ ∃ j want g, o.guard = some (j, want) ∧ guardSlot ops j = some g ∧ hasBit mask j = true ∧ look (slR sl0 rs) g = some (.ex (.bool want))) →
        (forceL (fpO sl1 o) fun fp => aop P (Sound P) o (restr sl1 (namesO o.op.operands.toList)) (heapFor fp mask (dsR rs) h0) nx fun v d n => forceL (keysN d) fun ks =>
          match rowsOk mask fp ks (rowsR rs) with
          | true => putK m o.dst v sl1 fun sl => stepN nx n fun nx => aopsD P (Sound P) ops m h0 l k (rs.length + 1) sl (pushD rs.length d (dsR rs)) ((rs.length, fp ++ ks, ks) :: rowsR rs) nx K
          | false => False) →
        ∃ R, AllOk P ops m n0 sl0 h0 ms R ∧ R.length = rs.length + (o :: l).length ∧ ∃ sl', (∀ t, look sl' t = look (slR sl0 R) t) ∧ K sl' (joinD (dsR R) h0) (nxR n0 R) := by
      intro sl1 h1 hg hk
      rw [forceL_eq, restr_congr h1] at hk
      obtain ⟨v, d, n, hok, hk⟩ := aop_ok hk
      rw [forceL_eq] at hk
      split at hk
      case h_2 => exact hk.elim
      rename_i hrows
      obtain ⟨hd, hk⟩ := putK_spec hk
      rw [stepN_eq] at hk
      refine next (r := ⟨o, v, d, n, nx, fpO sl1 o, mask⟩) ⟨ho, hmask, hn, hd, hrows, .inr ⟨hg, hok⟩⟩ ?_ rfl hk
      intro t
      rw [look_putR, look_putD, h1 t]
    have skip : ∀ {sl1 : Sl}, (∀ t, look sl1 t = look (slR sl0 rs) t) → (∃ j want g, o.guard = some (j, want) ∧ guardSlot ops j = some g ∧ hasBit mask j = true ∧ ((∃ b, look (slR sl0 rs) g = some (.ex (.bool b)) ∧ b ≠ want) ∨ ∃ us, look (slR sl0 rs) g = some (.ex (.tuple us)))) →
        (putK m o.dst (.ex undef) sl1 fun sl => aopsD P (Sound P) ops m h0 l k (rs.length + 1) sl (pushD rs.length [] (dsR rs)) ((rs.length, [], []) :: rowsR rs) nx K) →
        ∃ R, AllOk P ops m n0 sl0 h0 ms R ∧ R.length = rs.length + (o :: l).length ∧ ∃ sl', (∀ t, look sl' t = look (slR sl0 R) t) ∧ K sl' (joinD (dsR R) h0) (nxR n0 R) := by
      intro sl1 h1 hg hk
      obtain ⟨hd, hk⟩ := putK_spec hk
      have rowsF : ∀ (l : List (Nat × List Nat × List Nat)), rowsOk mask [] [] l = true := by
        intro l
        induction l with
        | nil => rfl
        | cons x l ih => obtain ⟨a, b, c⟩ := x; simp [rowsOk, meets, ih]
      refine next (r := ⟨o, .ex undef, [], 0, nx, [], mask⟩) ⟨ho, hmask, hn, hd, rowsF _, .inl ⟨rfl, rfl, rfl, hg⟩⟩ ?_ (by simp) hk
      intro t
      rw [look_putR, look_putD, h1 t]
    unfold aopsD at hk
    split at hk
    · rename_i hg; exact run hs (.inl hg) hk
    · rename_i j want hg
      split at hk
      case h_2 => exact hk.elim
      rename_i g hgs hbit
      split at hk
      · rename_i b hb
        have hlk := slotOf_look hb (by simp)
        rw [hs g] at hlk
        by_cases hbw : b = want
        · have hlk' := hbw ▸ hlk
          exact run (look_again hs hlk') (.inr ⟨j, want, g, hg, hgs, hbit, hlk'⟩) (hk.1 hbw)
        · have hbw' : b = (!want) := by cases b <;> cases want <;> simp_all
          have hlk' := hbw' ▸ hlk
          exact skip (look_again hs hlk') ⟨j, want, g, hg, hgs, hbit, .inl ⟨_, hlk, hbw⟩⟩ (hk.2 hbw')
      · rename_i us hb
        have hlk := slotOf_look hb (by simp)
        rw [hs g] at hlk
        exact skip hs ⟨j, want, g, hg, hgs, hbit, .inr ⟨us, hlk⟩⟩ hk
      · exact hk.elim
end Go.Proofs.Ytfonmnodjmeigaa.Av
