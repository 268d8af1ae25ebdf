/- What the claim stands on, Su23: contracts of functions and plain facts. No conditions. -/
import Derived.Test.YtbaedepmogkkeaaGreatSu8
import Derived.Test.YtbaedepmogkkeaaGreatSu17
namespace Go.Proofs.YtbaedepmogkkeaaGreat.Av
open Go Go.RowKit Go.ChangeShapes Go.WideShapes
set_option linter.unusedVariables false
set_option maxRecDepth 100000
set_option linter.unusedSimpArgs false
end Go.Proofs.YtbaedepmogkkeaaGreat.Av
namespace Go.Proofs.YtbaedepmogkkeaaGreat.Av
open Go Go.RowKit Go.ChangeShapes Go.WideShapes
set_option linter.unusedVariables false
set_option linter.unusedSimpArgs false
set_option maxRecDepth 100000
inductive KT where
 | int (k : IntKind)
 | bool
 | str
 | sl (ks : List KT)
inductive AvK : KT → AV → Prop where
 | int (k : IntKind) (n : Int) : (Lit.int k n).wf = true → AvK (.int k) (.ex (.int k n))
 | bool (b : Bool) : AvK .bool (.ex (.bool b))
 | str (l : List UInt8) : l.length ≤ 9223372036854775807 → AvK .str (T l)
 | sl (ks : List KT) (rows : List (List AV)) : rows.length ≤ 9223372036854775807 → (∀ r ∈ rows, r.length = ks.length) → (∀ r ∈ rows, ∀ (i : Nat) k v, ks[i]? = some k → r[i]? = some v → AvK k v) → AvK (.sl ks) (.vs rows.length rows.flatten)
def kindsF (g : TypeId → Option (List KT)) : List Field → Nat → Option (List KT)
 | [], _ => some []
 | f :: fs, off => if f.offset = off then (g f.type).bind fun ks => (kindsF g fs (off + ks.length)).map fun r => ks ++ r else none
def sizedK (P : Program) (t : TypeId) (ks : List KT) : Option (List KT) := if ks.length = P.cellsOf t then some ks else none
def kinds (P : Program) : Nat → TypeId → Option (List KT)
 | 0, _ => none
 | fuel + 1, t => match P.underlying t with
  | some .bool => some [.bool]
  | some (.int k) => some [.int k]
  | some .string => some [.str]
  | some (.slice e) => ((kinds P fuel e).bind (sizedK P e)).bind fun ks => if ks.length = 0 then none else some [.sl ks]
  | some (.struct fs) => (kindsF (fun u => (kinds P fuel u).bind (sizedK P u)) fs.toList 0).bind (sizedK P t)
  | some (.array n e) => (((kinds P fuel e).bind (sizedK P e)).map fun ks => (List.replicate n ks).flatten).bind (sizedK P t)
  | _ => none
theorem sizedK_some {P : Program} {t : TypeId} {o : Option (List KT)} {ks : List KT} (h : o.bind (sizedK P t) = some ks) : o = some ks ∧ ks.length = P.cellsOf t := by
 cases o with
 | none => simp at h
 | some k =>
  simp only [Option.bind_some, sizedK] at h
  split at h
  ·rename_i hl
   injection h with h; subst h
   exact ⟨rfl, hl⟩
  ·cases h
abbrev allF (w : World) : Nat → Nat → Prop := fun g _ => g < w.heap.size
def Good (w : World) (ks : List KT) (cs : List Value) : Prop := ∃ avs : List AV, avs.length = ks.length ∧ cs.length = ks.length ∧
 ∀ (i : Nat) (k : KT), ks[i]? = some k → ∃ v c, avs[i]? = some v ∧ cs[i]? = some c ∧ AvK k v ∧ Rep w p0 c0 (allF w) noD v c
section
variable {w : World}
theorem Good.append {a b : List KT} {x y : List Value} (h : Good w a x) (k : Good w b y) : Good w (a ++ b) (x ++ y) := by
 obtain ⟨u, h1, h2, h3⟩ := h
 obtain ⟨v, k1, k2, k3⟩ := k
 refine ⟨u ++ v, by simp [h1, k1], by simp [h2, k2], fun i c hc => ?_⟩
 rcases Nat.lt_or_ge i a.length with hi | hi
 ·rw [List.getElem?_append_left hi] at hc
  rw [List.getElem?_append_left (by omega), List.getElem?_append_left (by omega)]
  exact h3 i c hc
 ·rw [List.getElem?_append_right hi] at hc
  rw [List.getElem?_append_right (by omega), List.getElem?_append_right (by omega), h1, h2]
  exact k3 _ c hc
theorem Good.nil_ : Good w [] [] := ⟨[], rfl, rfl, fun i k h => by simp at h⟩
theorem Good.one {k : KT} {v : AV} {c : Value} (h : AvK k v) (hr : Rep w p0 c0 (allF w) noD v c) : Good w [k] [c] := ⟨[v], rfl, rfl, fun i k' hk => by
 cases i with
 | zero => simp at hk; subst hk; exact ⟨_, _, rfl, rfl, h, hr⟩
 | succ i => simp at hk⟩
theorem Good.cons_ {k : KT} {ks : List KT} {cs : List Value} (h : Good w (k :: ks) cs) : ∃ v c r, cs = c :: r ∧ AvK k v ∧ Rep w p0 c0 (allF w) noD v c ∧ Good w ks r := by
 obtain ⟨avs, h1, h2, h3⟩ := h
 cases cs with
 | nil => simp at h2
 | cons c r =>
  cases avs with
  | nil => simp at h1
  | cons v avs =>
   obtain ⟨v', c', e1, e2, e3, e4⟩ := h3 0 k rfl
   simp at e1 e2
   subst e1 e2
   exact ⟨v, c, r, rfl, e3, e4, avs, by simpa using h1, by simpa using h2, fun i k' hk => by simpa using h3 (i + 1) k' (by simpa using hk)⟩
section
variable {H : Type} {enc : TypeId × Value → H} {P : Program} {base : Nat} {held : Bool}
theorem kindsF_ok (g : TypeId → Option (List KT)) (cs : List Value) :
  ∀ (fs : List Field) (off : Nat) (ks : List KT), kindsF g fs off = some ks →
   (∀ f ∈ fs, ∀ k, g f.type = some k → Good w k ((cs.drop f.offset).take (P.cellsOf f.type)) ∧ k.length = P.cellsOf f.type) →
   Good w ks ((cs.drop off).take ks.length)
 | [], off, ks, h, _ => by
  simp [kindsF] at h; subst h
  simpa using Good.nil_
 | f :: fs, off, ks, h, hf => by
  unfold kindsF at h
  by_cases ho : f.offset = off
  ·rw [if_pos ho] at h
   cases hk : g f.type with
   | none => simp [hk] at h
   | some k =>
    cases hr : kindsF g fs (off + k.length) with
    | none => simp [hk, hr] at h
    | some r =>
     simp [hk, hr] at h
     subst h
     obtain ⟨h1, h2⟩ := hf f (by simp) k hk
     have ih := kindsF_ok g cs fs (off + k.length) r hr (fun f' hf' => hf f' (by simp [hf']))
     rw [ho, ← h2] at h1
     have e : (cs.drop off).take (k ++ r).length = (cs.drop off).take k.length ++ (cs.drop (off + k.length)).take r.length := by
      rw [List.length_append, List.take_add, List.drop_drop]
     rw [e]
     exact h1.append ih
  ·rw [if_neg ho] at h; cases h
theorem cell_lt {a : Addr} {v : Value} (h : w.cell? a = some v) : a.block < w.heap.size ∧ a.spot = none := by
 unfold World.cell? at h
 split at h
 ·rename_i c e f hb
  have := (Array.getElem?_eq_some_iff.1 hb).1
  split at h
  ·cases h
  ·rename_i hs
   exact ⟨this, by simpa using hs⟩
 ·cases h
theorem rows_good {x : Addr} {ks : List KT} {len : Nat} (h : ∀ i, i < len → ∃ cs, Good w ks cs ∧ ∀ (j : Nat) (u : Value), cs[j]? = some u → w.cell? (x.add (i * ks.length + j)) = some u) :
  ∀ m, m ≤ len → ∃ rows : List (List AV), rows.length = m ∧ (∀ r ∈ rows, r.length = ks.length) ∧ (∀ r ∈ rows, ∀ (i : Nat) k v, ks[i]? = some k → r[i]? = some v → AvK k v) ∧
   ∀ i, i < m → ∀ j, j < ks.length → ∃ v u, rows.flatten[i * ks.length + j]? = some v ∧ w.cell? (x.add (i * ks.length + j)) = some u ∧ Rep w p0 c0 (allF w) noD v u
 | 0, _ => ⟨[], rfl, by simp, by simp, fun i hi => by omega⟩
 | m + 1, hm => by
  obtain ⟨rows, h1, h2, h3, h4⟩ := rows_good h m (by omega)
  obtain ⟨cs, ⟨avs, k1, k2, k3⟩, k4⟩ := h m (by omega)
  have hfl : rows.flatten.length = m * ks.length := by
   have : ∀ (l : List (List AV)), (∀ r ∈ l, r.length = ks.length) → l.flatten.length = l.length * ks.length := by
    intro l
    induction l with
    | nil => intro _; simp
    | cons r l ih => intro hl; rw [List.flatten_cons, List.length_append, ih fun r hr => hl r (by simp [hr]), hl r (by simp), List.length_cons, Nat.succ_mul]; omega
   rw [this rows h2, h1]
  refine ⟨rows ++ [avs], by simp [h1], fun r hr => ?_, fun r hr i k v hk hv => ?_, fun i hi j hj => ?_⟩
  ·rcases List.mem_append.1 hr with hr | hr
   ·exact h2 r hr
   ·simp at hr; subst hr; exact k1
  ·rcases List.mem_append.1 hr with hr | hr
   ·exact h3 r hr i k v hk hv
   ·simp at hr; subst hr
    obtain ⟨v', c', e1, _, e3, _⟩ := k3 i k hk
    rw [hv] at e1; injection e1 with e1; subst e1; exact e3
  ·rw [List.flatten_append]
   by_cases e : i < m
   ·obtain ⟨v, u, q1, q2, q3⟩ := h4 i e j hj
    refine ⟨v, u, ?_, q2, q3⟩
    have hlt : i * ks.length + j < rows.flatten.length := by
     rw [hfl]
     have : i * ks.length + ks.length ≤ m * ks.length := by rw [← Nat.succ_mul]; exact Nat.mul_le_mul_right _ e
     omega
    rw [List.getElem?_append_left hlt]; exact q1
   ·obtain rfl : i = m := by omega
    obtain ⟨v, c, e1, e2, _, e4⟩ := k3 j _ (List.getElem?_eq_getElem hj)
    refine ⟨v, c, ?_, k4 j c e2, e4⟩
    rw [List.getElem?_append_right (by omega), hfl, Nat.add_sub_cancel_left]
    simpa using e1
theorem slice_good {x : Addr} {ks : List KT} {len cap : Nat} (hk : 0 < ks.length) (hc : len ≤ cap) (hm : cap ≤ 9223372036854775807) (hs : cap ≠ 0 → x.spot = none)
  (h : ∀ i, i < len → ∃ cs, Good w ks cs ∧ ∀ (j : Nat) (u : Value), cs[j]? = some u → w.cell? (x.add (i * ks.length + j)) = some u) : Good w [.sl ks] [.slice (some x) len cap] := by
 obtain ⟨rows, h1, h2, h3, h4⟩ := rows_good h len (Nat.le_refl _)
 refine Good.one (AvK.sl ks rows (by omega) h2 h3) ?_
 have hfl : rows.flatten.length = len * ks.length := by
  have : ∀ (l : List (List AV)), (∀ r ∈ l, r.length = ks.length) → l.flatten.length = l.length * ks.length := by
   intro l
   induction l with
   | nil => intro _; simp
   | cons r l ih => intro hl; rw [List.flatten_cons, List.length_append, ih fun r hr => hl r (by simp [hr]), hl r (by simp), List.length_cons, Nat.succ_mul]; omega
  rw [this rows h2, h1]
 by_cases h0 : cap = 0
 ·subst h0
  obtain rfl : len = 0 := by omega
  obtain rfl : rows = [] := List.eq_nil_of_length_eq_zero h1
  exact .vnil _
 ·have hs := hs h0
  obtain ⟨b, o, s⟩ := x
  simp only at hs; subst hs
  rw [h1]
  have cell : ∀ j, j < rows.flatten.length → ∃ v u, rows.flatten[j]? = some v ∧ w.cell? ⟨b, o + j, none⟩ = some u ∧ Rep w p0 c0 (allF w) noD v u := by
   intro j hj
   rw [hfl] at hj
   have hi : j / ks.length < len := by rw [Nat.div_lt_iff_lt_mul hk]; exact hj
   have hj2 : j % ks.length < ks.length := Nat.mod_lt _ hk
   have e : j / ks.length * ks.length + j % ks.length = j := by rw [Nat.mul_comm]; exact Nat.div_add_mod j ks.length
   obtain ⟨v, u, q1, q2, q3⟩ := h4 _ hi _ hj2
   rw [e] at q1 q2
   rw [Addr.add_lit] at q2
   exact ⟨v, u, q1, q2, q3⟩
  refine .vs _ len _ b o cap (fun j => (w.cell? ⟨b, o + j, none⟩).getD undef) hc (fun j hj => ?_) (fun j hj => ?_)
  ·obtain ⟨v, u, q1, q2, q3⟩ := cell j hj
   exact ⟨(cell_lt q2).1, by rw [q2]; rfl⟩
  ·obtain ⟨v, u, q1, q2, q3⟩ := cell j hj
   rw [q2]
   rw [List.getElem?_eq_getElem hj] at q1
   injection q1 with q1
   rw [q1]; exact q3
theorem kinds_ok : ∀ (n : Nat) (t : TypeId) (ks : List KT) (fuel : Nat) (cs : List Value) (x : DataW H × List MemPlace),
  kinds P n t = some ks → DataW.trod enc P w base (fun _ => true) held fuel t cs = some x → Good w ks cs
 | 0, _, _, _, _, _, h, _ => by simp [kinds] at h
 | n + 1, t, ks, 0, cs, x, _, hx => by simp [DataW.trod] at hx
 | n + 1, t, ks, fuel + 1, cs, x, h, hx => by
  unfold kinds at h
  unfold DataW.trod at hx
  cases hu : P.underlying t with
  | none => simp [hu] at h
  | some d =>
   rw [hu] at h hx
   cases d
   case bool =>
    simp at h; subst h
    split at hx <;> simp_all
    exact Good.one (AvK.bool _) (.ex _ _)
   case int k0 =>
    simp at h; subst h
    split at hx <;> simp_all
    exact Good.one (AvK.int _ _ (by simp_all)) (.ex _ _)
   case string =>
    simp at h; subst h
    have hcs : ∃ s : ByteArray, cs = [.string s] ∧ s.size ≤ maxLen := by
     split at hx <;> simp_all
    obtain ⟨s, rfl, hs⟩ := hcs
    refine Good.one (AvK.str s.data.toList (by unfold maxLen at hs; simpa using hs)) ?_
    show Rep _ _ _ _ _ (.ex (.string (bs s.data.toList))) _
    rw [← bs_of]; exact .ex _ _
   case slice e =>
    simp only at h hx
    cases hq : (kinds P n e).bind (sizedK P e) with
    | none => simp [hq] at h
    | some k =>
     rw [hq] at h
     simp only [Option.bind_some] at h
     obtain ⟨hq, hke⟩ := sizedK_some hq
     split at h
     ·cases h
     rename_i hk0
     injection h with h; subst h
     split at hx <;> simp_all
     ·exact Good.one (AvK.sl k [] (by simp) (by simp) (by simp)) (.vnil _)
     ·rename_i e a len cap h1 h2
      obtain ⟨⟨b1, b2, b3⟩, hx⟩ := hx
      obtain ⟨xs, hxs, hx⟩ := Option.bind_eq_some_iff.1 hx
      obtain ⟨rs, hrs, _⟩ := Option.map_eq_some_iff.1 hx
      have elem : ∀ i y, ((w.cells? base (a.add (i * P.cellsOf e)) (P.cellsOf e)).bind (DataW.trod enc P w base (fun _ => true) held fuel e)) = some y → ∃ cs, Good w k cs ∧ ∀ (j : Nat) (u : Value), cs[j]? = some u → w.cell? (a.add (i * k.length + j)) = some u := fun i y hb => by
       cases hc : w.cells? base (a.add (i * P.cellsOf e)) (P.cellsOf e) with
       | none => simp [hc] at hb
       | some cs =>
        rw [hc] at hb
        obtain ⟨_, hat⟩ := cells?_at hc
        refine ⟨cs, kinds_ok n e k fuel cs y hq hb, fun j u hu => ?_⟩
        have := hat j u hu
        rw [add_add, ← hke] at this
        exact this
      have hall : ∀ i, i < len → ∃ cs, Good w k cs ∧ ∀ (j : Nat) (u : Value), cs[j]? = some u → w.cell? (a.add (i * k.length + j)) = some u := fun i hi => by
       obtain ⟨_, hall⟩ := mapM_some _ _ _ hxs
       obtain ⟨b, hb, _⟩ := hall i i (by rw [List.getElem?_range hi])
       exact elem i b hb
      refine slice_good (by omega) b2 (by unfold maxLen at b3; simpa using b3) (fun h0 => ?_) hall
      have h1 : ∃ i y, ((w.cells? base (a.add (i * P.cellsOf e)) (P.cellsOf e)).bind (DataW.trod enc P w base (fun _ => true) held fuel e)) = some y ∧ i = 0 := by
       by_cases hl : len = 0
       ·obtain ⟨_, hall⟩ := mapM_some _ _ _ hrs
        obtain ⟨b, hb, _⟩ := hall 0 0 (by rw [List.getElem?_range (by omega)])
        exact ⟨len + 0, b, hb, by omega⟩
       ·obtain ⟨_, hall⟩ := mapM_some _ _ _ hxs
        obtain ⟨b, hb, _⟩ := hall 0 0 (by rw [List.getElem?_range (by omega)])
        exact ⟨0, b, hb, rfl⟩
      obtain ⟨i, y, hy, rfl⟩ := h1
      obtain ⟨cs, ⟨avs, g1, g2, g3⟩, g4⟩ := elem 0 y hy
      obtain ⟨v, c, _, e2, _⟩ := g3 0 _ (List.getElem?_eq_getElem (by omega))
      have := (cell_lt (g4 0 c e2)).2
      simpa [Addr.add] using this
   case struct fs =>
    simp only at h hx
    obtain ⟨h, hlen⟩ := sizedK_some h
    split at hx
    ·rename_i hl
     cases hm : (fs.toList.mapM fun f => DataW.trod enc P w base (fun _ => true) held fuel f.type ((cs.drop f.offset).take (P.cellsOf f.type))) with
     | none => simp [hm] at hx
     | some xs =>
      obtain ⟨_, hall⟩ := mapM_some _ _ _ hm
      have hk := kindsF_ok (P := P) _ cs fs.toList 0 ks h (fun f hf k hg => by
       obtain ⟨hq, hlen'⟩ := sizedK_some hg
       obtain ⟨i, hi⟩ := List.getElem?_of_mem hf
       obtain ⟨b, hb, _⟩ := hall i f hi
       exact ⟨kinds_ok n f.type k fuel _ b hq hb, hlen'⟩)
      rw [List.drop_zero, hlen, ← hl, List.take_length] at hk
      exact hk
    ·cases hx
   case array m e =>
    simp only at h hx
    obtain ⟨h, hlen⟩ := sizedK_some h
    split at hx
    ·rename_i hl
     cases hq : (kinds P n e).bind (sizedK P e) with
     | none => simp [hq] at h
     | some k =>
      rw [hq] at h
      simp at h
      obtain ⟨hq, hke⟩ := sizedK_some hq
      cases hm : ((List.range m).mapM fun i => DataW.trod enc P w base (fun _ => true) held fuel e ((cs.drop (i * P.cellsOf e)).take (P.cellsOf e))) with
      | none => simp [hm] at hx
      | some xs =>
       obtain ⟨_, hall⟩ := mapM_some _ _ _ hm
       have hrow : ∀ j, j ≤ m → Good w (List.replicate j k).flatten (cs.take (j * P.cellsOf e)) := by
        intro j
        induction j with
        | zero => intro _; simpa using Good.nil_
        | succ j ih =>
         intro hj
         obtain ⟨b, hb, _⟩ := hall j j (by rw [List.getElem?_range (by omega)])
         have h1 := kinds_ok n e k fuel _ b hq hb
         have e1 : (List.replicate (j + 1) k).flatten = (List.replicate j k).flatten ++ k := by
          rw [List.replicate_succ', List.flatten_append]; simp
         rw [e1, Nat.succ_mul, List.take_add]
         exact (ih (by omega)).append h1
       have := hrow m (Nat.le_refl _)
       rw [h] at this
       have e2 : m * P.cellsOf e = cs.length := by
        rw [hl, ← hlen, ← h]
        simp [hke]
       rw [e2, List.take_length] at this
       exact this
    ·cases hx
   all_goals simp at h
theorem open_k {t : TypeId} {v : Value} {d : DataW H} {p : List MemPlace} {ks : List KT} (n : Nat) (hk : kinds P n t = some ks)
  (h : DataW.Trod enc P w base (fun _ => true) held t v d p) : Good w ks v.cells.toList := by
 obtain ⟨fuel, hf⟩ := h
 exact kinds_ok n t ks fuel _ _ hk hf
theorem open_k1 {t e : TypeId} {v : Value} {d : DataW H} {p : List MemPlace} {ks : List KT} {r : Reach} {b0 : Nat} (n : Nat) (ht : P.underlying t = some (.slice e)) (hv : Value.okWide P w r b0 t v) (hk : kinds P n t = some [.sl ks])
  (h : DataW.Trod enc P w base (fun _ => true) held t v d p) : ∃ a, AvK (.sl ks) a ∧ Rep w p0 c0 (allF w) noD a v := by
 obtain ⟨a, len, cap, rfl⟩ := okWide_slice ht hv
 have := open_k n hk h
 obtain ⟨a, c, r, e, h1, h2, _⟩ := this.cons_
 simp [Value.cells] at e
 obtain ⟨rfl, _⟩ := e
 exact ⟨a, h1, h2⟩
theorem open_kagg {t : TypeId} {v : Value} {d : DataW H} {p : List MemPlace} {ks : List KT} {D : TypeDesc} {r : Reach} {b0 : Nat} (n : Nat) (hD : P.underlying t = some D) (ha : plainDesc D = false) (hv : Value.okWide P w r b0 t v) (hk : kinds P n t = some ks)
  (h : DataW.Trod enc P w base (fun _ => true) held t v d p) : ∃ avs : List AV, avs.length = ks.length ∧ (∀ (i : Nat) k a, ks[i]? = some k → avs[i]? = some a → AvK k a) ∧ Rep w p0 c0 (allF w) noD (.agg avs) v := by
 have hcs : ∃ cs, v = .agg cs := by
  unfold Value.okWide at hv
  rw [hD] at hv
  cases D <;> simp [plainDesc] at ha
  ·obtain ⟨cs, h, _⟩ := hv; exact ⟨cs, h⟩
  ·obtain ⟨cs, h, _⟩ := hv; exact ⟨cs, h⟩
 obtain ⟨cs, rfl⟩ := hcs
 obtain ⟨avs, h1, h2, h3⟩ := open_k n hk h
 have h2' : cs.size = ks.length := by simpa [Value.cells] using h2
 refine ⟨avs, h1, fun i k a hi hai => ?_, .agg _ _ _ (by omega) fun j hj => ?_⟩
 ·obtain ⟨v, c, e1, _, e3, _⟩ := h3 i k hi
  rw [hai] at e1; injection e1 with e1; subst e1; exact e3
 ·obtain ⟨v, c, e1, e2, _, e4⟩ := h3 j _ (List.getElem?_eq_getElem (by omega))
  rw [List.getElem?_eq_getElem hj] at e1
  injection e1 with e1
  have e5 : cs.getD j undef = c := by
   have : cs[j]? = some c := by simpa [Value.cells] using e2
   simp [this]
  rw [e1, e5]; exact e4
end
end
/-! ### what the kinds say -/
theorem AvK.u8_ {v : AV} (h : AvK (.int .u8) v) : ∃ b : UInt8, v = .ex (.int .u8 (b.toNat : Int)) := by
 cases h with
 | int k n hw =>
  have hb := bounds_u8 hw
  refine ⟨UInt8.ofNat n.toNat, ?_⟩
  rw [UInt8.toNat_ofNat_of_lt' (by show n.toNat < 256; omega)]
  congr 2; omega
theorem AvK.i64_ {v : AV} (h : AvK (.int .i64) v) : ∃ n : Int, v = Z n ∧ -9223372036854775808 ≤ n ∧ n ≤ 9223372036854775807 := by
 cases h with
 | int k n hw => have := bounds_i64 hw; exact ⟨n, rfl, by omega, by omega⟩
theorem AvK.u64_ {v : AV} (h : AvK (.int .u64) v) : ∃ n : Nat, v = U n ∧ n < 18446744073709551616 := by
 cases h with
 | int k n hw =>
  have := bounds_u64 hw
  refine ⟨n.toNat, ?_, by omega⟩
  show _ = AV.ex (.int .u64 _)
  congr 2; omega
theorem AvK.str_ {v : AV} (h : AvK .str v) : ∃ l : List UInt8, v = T l ∧ l.length ≤ 9223372036854775807 := by cases h with | str l hl => exact ⟨l, rfl, hl⟩
theorem AvK.sl_ {v : AV} {ks : List KT} (h : AvK (.sl ks) v) : ∃ rows : List (List AV), v = .vs rows.length rows.flatten ∧ rows.length ≤ 9223372036854775807 ∧ (∀ r ∈ rows, r.length = ks.length) ∧ (∀ r ∈ rows, ∀ (i : Nat) k v, ks[i]? = some k → r[i]? = some v → AvK k v) := by
 cases h with | sl ks rows h1 h2 h3 => exact ⟨rows, rfl, h1, h2, h3⟩
theorem rows_list {α : Type} {rows : List (List AV)} (C : α → List AV) (Q : α → Prop) (h : ∀ r ∈ rows, ∃ x, Q x ∧ r = C x) : ∃ L : List α, L.length = rows.length ∧ rows.flatten = (L.map C).flatten ∧ ∀ x ∈ L, Q x := by
 induction rows with
 | nil => exact ⟨[], rfl, rfl, by simp⟩
 | cons r rows ih =>
  obtain ⟨L, h1, h2, h3⟩ := ih fun r hr => h r (by simp [hr])
  obtain ⟨x, hx, rfl⟩ := h r (by simp)
  exact ⟨x :: L, by simp [h1], by simp [h2], by simpa using ⟨hx, h3⟩⟩
end Go.Proofs.YtbaedepmogkkeaaGreat.Av
