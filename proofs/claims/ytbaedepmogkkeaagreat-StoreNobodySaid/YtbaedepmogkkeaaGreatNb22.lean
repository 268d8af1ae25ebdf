/- What the claim stands on, Nb22: contracts of functions and plain facts. No conditions. -/
import Derived.Test.YtbaedepmogkkeaaGreatNb8
import Derived.Test.YtbaedepmogkkeaaGreatNb17
import Derived.Test.YtbaedepmogkkeaaGreatNb18
namespace Go.Proofs.YtbaedepmogkkeaaGreat.Av
open Go Go.RowKit Go.ChangeShapes Go.WideShapes
set_option linter.unusedVariables false
set_option maxRecDepth 100000
set_option linter.unusedSimpArgs false
def rowF (x : Option Addr) (n : Nat) : Nat → Nat → Prop := fun g j => ∃ a, x = some a ∧ a.block = g ∧ a.off ≤ j ∧ j < a.off + n
theorem spot_none {P : Program} {w : World} {r : Reach} {b : Nat} {t e : TypeId} {x : Addr} {len cap : Nat} (ht : P.underlying t = some (.slice e)) (h : Value.okWide P w r b t (.slice (some x) len cap)) : x.spot = none := by
 simp only [Value.okWide, ht, Cell.okWide, Cell.ok] at h
 exact h.2.2.2.1
theorem flat_get {m : Nat} : ∀ {rows : List (List Value)}, (∀ r ∈ rows, r.length = m) → ∀ {i j : Nat}, i < rows.length → j < m → rows.flatten[i * m + j]? = (rows[i]?).bind fun r => r[j]?
 | [], _, i, j, hi, _ => by simp at hi
 | r :: rows, h, i, j, hi, hj => by
  have hr := h r (by simp)
  cases i with
  | zero =>
   rw [Nat.zero_mul, Nat.zero_add, List.flatten_cons, List.getElem?_append_left (by omega)]
   rfl
  | succ i =>
   rw [List.flatten_cons, List.getElem?_append_right (by rw [Nat.succ_mul]; omega)]
   have e : (i + 1) * m + j - r.length = i * m + j := by rw [Nat.succ_mul]; omega
   rw [e, flat_get (fun r hr => h r (by simp [hr])) (by simpa using hi) hj]
   rfl
theorem flat_len {m : Nat} : ∀ {rows : List (List Value)}, (∀ r ∈ rows, r.length = m) → rows.flatten.length = rows.length * m
 | [], _ => by simp
 | r :: rows, h => by
  rw [List.flatten_cons, List.length_append, flat_len fun r hr => h r (by simp [hr]), h r (by simp), List.length_cons, Nat.succ_mul]; omega
theorem slice_rows {w : World} {ks : List CK} {x : Addr} {len : Nat} (h : ∀ i, i < len → ∃ cs, CellsOk ks cs ∧ ∀ (j : Nat) (u : Value), cs[j]? = some u → w.cell? (x.add (i * ks.length + j)) = some u) :
  ∀ m, m ≤ len → ∃ rows : List (List Value), rows.length = m ∧ (∀ r ∈ rows, CellsOk ks r) ∧ ∀ i, i < m → ∀ r, rows[i]? = some r → ∀ (j : Nat) (u : Value), r[j]? = some u → w.cell? (x.add (i * ks.length + j)) = some u
 | 0, _ => ⟨[], rfl, by simp, fun i hi => by omega⟩
 | m + 1, hm => by
  obtain ⟨rows, h1, h2, h3⟩ := slice_rows h m (by omega)
  obtain ⟨cs, h4, h5⟩ := h m (by omega)
  refine ⟨rows ++ [cs], by simp [h1], fun r hr => ?_, fun i hi r hr j u hu => ?_⟩
  ·rcases List.mem_append.1 hr with hr | hr
   ·exact h2 r hr
   ·simp at hr; subst hr; exact h4
  ·by_cases e : i < m
   ·rw [List.getElem?_append_left (by omega)] at hr
    exact h3 i e r hr j u hu
   ·have e : i = m := by omega
    subst e
    rw [List.getElem?_append_right (by omega), h1, Nat.sub_self] at hr
    simp at hr; subst hr
    exact h5 j u hu
theorem slice_av {P : Program} {w : World} {r : Reach} {b : Nat} {t e : TypeId} {a : Option Addr} {len cap : Nat} {ks : List CK} (ht : P.underlying t = some (.slice e)) (hv : Value.okWide P w r b t (.slice a len cap))
  (h : SliceOk w ks a len) (hc : len ≤ cap) (hm : cap ≤ 9223372036854775807) (h0 : a = none → cap = 0) (hk : 0 < ks.length) :
  ∃ rows : List (List Value), rows.length = len ∧ len ≤ 9223372036854775807 ∧ (∀ r ∈ rows, CellsOk ks r) ∧ (∀ g j, rowF a (len * ks.length) g j → g < w.heap.size) ∧
   ∀ F' : Nat → Nat → Prop, (∀ g j, rowF a (len * ks.length) g j → F' g j) → Rep w p0 c0 F' noD (.vs len (rows.flatten.map .ex)) (.slice a len cap) := by
 cases a with
 | none =>
  have hc0 := h0 rfl
  subst hc0
  have hl0 : len = 0 := by omega
  subst hl0
  refine ⟨[], rfl, by omega, by simp, ?_, fun F' _ => .vnil _⟩
  rintro g j ⟨a, ha, _⟩; cases ha
 | some x =>
  have hs := spot_none ht hv
  rcases h with ⟨h, _⟩ | ⟨y, hy, hx⟩
  ·cases h
  ·injection hy with hy; subst hy
   obtain ⟨rows, h1, h2, h3⟩ := slice_rows hx len (Nat.le_refl _)
   have hlen : ∀ r ∈ rows, r.length = ks.length := fun r hr => (h2 r hr).1
   have hfl := flat_len hlen
   rw [h1] at hfl
   have cell : ∀ j, j < len * ks.length → ∃ u, rows.flatten[j]? = some u ∧ w.cell? ⟨x.block, x.off + j, none⟩ = some u := by
    intro j hj
    have hi : j / ks.length < len := by rw [Nat.div_lt_iff_lt_mul hk]; exact hj
    have hj2 : j % ks.length < ks.length := Nat.mod_lt _ hk
    have e : j / ks.length * ks.length + j % ks.length = j := by rw [Nat.mul_comm]; exact Nat.div_add_mod j ks.length
    have h4 := flat_get hlen (i := j / ks.length) (j := j % ks.length) (by omega) hj2
    rw [e] at h4
    have hr : rows[j / ks.length]? = some rows[j / ks.length] := List.getElem?_eq_getElem (by omega)
    have hu : rows[j / ks.length][j % ks.length]? = some (rows[j / ks.length][j % ks.length]'(by rw [hlen _ (List.getElem_mem _)]; exact hj2)) := List.getElem?_eq_getElem _
    refine ⟨_, by rw [h4, hr]; exact hu, ?_⟩
    have h5 := h3 _ hi _ hr _ _ hu
    rw [e] at h5
    have e2 : x.add j = ⟨x.block, x.off + j, none⟩ := by
     obtain ⟨b, o, s⟩ := x
     simp only at hs; subst hs
     rw [Addr.add_lit]
    rw [e2] at h5; exact h5
   refine ⟨rows, h1, by omega, h2, ?_, fun F' hF => ?_⟩
   ·rintro g j ⟨a, ha, rfl, q1, q2⟩
    injection ha with ha; subst ha
    obtain ⟨u, _, hu⟩ := cell (j - x.off) (by omega)
    rw [show x.off + (j - x.off) = j by omega] at hu
    apply Classical.byContradiction
    intro hn
    unfold World.cell? at hu
    rw [Array.getElem?_eq_none (by show w.heap.size ≤ x.block; omega)] at hu
    cases hu
   ·obtain ⟨b, o, s⟩ := x
    simp only at hs; subst hs
    refine .vs _ len _ b o cap (fun j => rows.flatten.getD j undef) hc (fun j hj => ?_) (fun j hj => ?_)
    ·have hj' : j < len * ks.length := by rw [List.length_map, hfl] at hj; exact hj
     obtain ⟨u, q1, q2⟩ := cell j hj'
     refine ⟨hF _ _ ⟨_, rfl, rfl, by simp, by simp; omega⟩, ?_⟩
     rw [q2]; simp [List.getD, q1]
    ·have hj' : j < rows.flatten.length := by rw [List.length_map] at hj; exact hj
     have e : (rows.flatten.map AV.ex)[j] = .ex (rows.flatten.getD j undef) := by
      rw [List.getElem_map]; simp [List.getD, List.getElem?_eq_getElem hj']
     rw [e]; exact .ex _ _
theorem calls_at {f : FuncId} {avs : List AV} {v : Value} (h : SP f avs (.ex v)) (w : World) (F : Nat → Nat → Prop) (hF : ∀ g j, F g j → g < w.heap.size) (xs : Array Value) (hs : xs.size = avs.length)
  (hr : ∀ j (h : j < avs.length), Rep w p0 c0 F noD avs[j] (xs.getD j undef)) : Calls Tryz.prog f xs w fun e w' => e = .returned v ∧ Below w.heap.size w w' := by
 refine (h.2 w F xs hs hr hF).mono ?_
 rintro e w' ⟨x, F', rfl, hb, _, _, hr⟩
 have := hr.ex_inv
 subst this
 exact ⟨rfl, hb⟩
end Go.Proofs.YtbaedepmogkkeaaGreat.Av
namespace Go.Proofs.YtbaedepmogkkeaaGreat.Av
open Go Go.RowKit Go.ChangeShapes Go.WideShapes Tre
set_option linter.unusedVariables false
set_option linter.unusedSimpArgs false
set_option maxRecDepth 100000
theorem rows_O13 {rows : List (List Value)} (h : ∀ r ∈ rows, CellsOk [.int .u8, .str, .str] r) : ∃ os : List OpP, os.length = rows.length ∧ rows.flatten.map .ex = opC os := by
 induction rows with
 | nil => exact ⟨[], rfl, rfl⟩
 | cons r rows ih =>
  obtain ⟨os, h1, h2⟩ := ih fun r hr => h r (by simp [hr])
  obtain ⟨v, q1, rfl, ⟨k, rfl, hk⟩, hq1⟩ := (h r (by simp)).cons_
  obtain ⟨v, q2, rfl, ⟨l, rfl, hl⟩, hq2⟩ := hq1.cons_
  obtain ⟨v, q3, rfl, ⟨m, rfl, hm⟩, hq3⟩ := hq2.cons_
  have := hq3.empty_
  subst this
  have hb := bounds_u8 hk
  refine ⟨(k.toNat, l, m) :: os, by simp [h1], ?_⟩
  rw [List.flatten_cons, List.map_append, h2]
  show [AV.ex (.int .u8 k), T l, T m] ++ opC os = [AV.ex (.int .u8 (k.toNat : Int)), T l, T m] ++ opC os
  rw [Int.toNat_of_nonneg hb.1]
end Go.Proofs.YtbaedepmogkkeaaGreat.Av
