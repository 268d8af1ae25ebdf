/- What the claim stands on, Pl8: contracts of functions and plain facts. No conditions. -/
import Derived.Test.YtbaedepmogkkeaaGreatPl4
import Derived.ProofKit
import Derived.OpenShut
import Derived.ChangeOld
import Derived.Below
namespace Go.Proofs.YtbaedepmogkkeaaGreat
set_option linter.unusedSimpArgs false
set_option linter.unusedVariables false
open Go.RowKit Go.ChangeShapes Go.WideShapes
inductive CK where
 | int (k : IntKind)
 | bool
 | str
def CK.ok : CK → Value → Prop
 | .int k, v => ∃ n : Int, v = .int k n ∧ (Lit.int k n).wf = true
 | .bool, v => ∃ b : Bool, v = .bool b
 | .str, v => ∃ l : List UInt8, v = .string (bs l) ∧ l.length ≤ 9223372036854775807
def flatFields (g : TypeId → Option (List CK)) : List Field → Nat → Option (List CK)
 | [], _ => some []
 | f :: fs, off => if f.offset = off then (g f.type).bind fun ks => (flatFields g fs (off + ks.length)).map fun r => ks ++ r else none
def sized (P : Program) (t : TypeId) (ks : List CK) : Option (List CK) := if ks.length = P.cellsOf t then some ks else none
def flat (P : Program) : Nat → TypeId → Option (List CK)
 | 0, _ => none
 | fuel + 1, t => match P.underlying t with
  | some .bool => some [.bool]
  | some (.int k) => some [.int k]
  | some .string => some [.str]
  | some (.struct fs) => (flatFields (fun u => (flat P fuel u).bind (sized P u)) fs.toList 0).bind (sized P t)
  | some (.array n e) => (((flat P fuel e).bind (sized P e)).map fun ks => (List.replicate n ks).flatten).bind (sized P t)
  | _ => none
theorem sized_some {P : Program} {t : TypeId} {o : Option (List CK)} {ks : List CK} (h : o.bind (sized P t) = some ks) : o = some ks ∧ ks.length = P.cellsOf t := by
 cases o with
 | none => simp at h
 | some k =>
  simp only [Option.bind_some, sized] at h
  split at h
  ·rename_i hl
   injection h with h; subst h
   exact ⟨rfl, hl⟩
  ·cases h
def CellsOk (ks : List CK) (cs : List Value) : Prop := cs.length = ks.length ∧ ∀ (i : Nat) (k : CK), ks[i]? = some k → ∃ v, cs[i]? = some v ∧ k.ok v
theorem CellsOk.append {a b : List CK} {x y : List Value} (h : CellsOk a x) (k : CellsOk b y) : CellsOk (a ++ b) (x ++ y) := by
 refine ⟨by rw [List.length_append, List.length_append, h.1, k.1], fun i c hc => ?_⟩
 rcases Nat.lt_or_ge i a.length with hi | hi
 ·rw [List.getElem?_append_left hi] at hc
  rw [List.getElem?_append_left (by rw [h.1]; exact hi)]
  exact h.2 i c hc
 ·rw [List.getElem?_append_right hi] at hc
  rw [List.getElem?_append_right (by rw [h.1]; exact hi), h.1]
  exact k.2 _ c hc
theorem CellsOk.nil_ : CellsOk [] [] := ⟨rfl, fun i k h => by simp at h⟩
theorem CellsOk.cons_ {k : CK} {ks : List CK} {cs : List Value} (h : CellsOk (k :: ks) cs) : ∃ v r, cs = v :: r ∧ k.ok v ∧ CellsOk ks r := by
 obtain ⟨hl, hc⟩ := h
 cases cs with
 | nil => simp at hl
 | cons v r =>
  obtain ⟨u, hu, hk⟩ := hc 0 k rfl
  simp at hu
  subst hu
  exact ⟨v, r, rfl, hk, by simpa using hl, fun i c h => by simpa using hc (i + 1) c (by simpa using h)⟩
theorem CellsOk.empty_ {cs : List Value} (h : CellsOk [] cs) : cs = [] := List.eq_nil_of_length_eq_zero h.1
section
variable {H : Type} {enc : TypeId × Value → H} {P : Program} {w : World} {base : Nat} {spare : Nat → Bool} {held : Bool}
theorem mapM_some {α β : Type} (f : α → Option β) : ∀ (l : List α) (r : List β), l.mapM f = some r → r.length = l.length ∧ ∀ (i : Nat) (a : α), l[i]? = some a → ∃ b, f a = some b ∧ r[i]? = some b
 | [], r, h => by
  simp at h; subst h
  exact ⟨rfl, fun i a h => by simp at h⟩
 | x :: l, r, h => by
  rw [List.mapM_cons] at h
  cases hx : f x with
  | none => simp [hx] at h
  | some b =>
   cases hl : l.mapM f with
   | none => simp [hx, hl] at h
   | some r' =>
    simp [hx, hl] at h
    subst h
    obtain ⟨h1, h2⟩ := mapM_some f l r' hl
    refine ⟨by simp [h1], fun i a ha => ?_⟩
    cases i with
    | zero => simp at ha; subst ha; exact ⟨b, hx, rfl⟩
    | succ i => simpa using h2 i a (by simpa using ha)
theorem flatFields_ok (g : TypeId → Option (List CK)) (cs : List Value) :
  ∀ (fs : List Field) (off : Nat) (ks : List CK), flatFields g fs off = some ks →
   (∀ f ∈ fs, ∀ k, g f.type = some k → CellsOk k ((cs.drop f.offset).take (P.cellsOf f.type)) ∧ k.length = P.cellsOf f.type) →
   CellsOk ks ((cs.drop off).take ks.length)
 | [], off, ks, h, _ => by
  simp [flatFields] at h; subst h
  simpa using CellsOk.nil_
 | f :: fs, off, ks, h, hf => by
  unfold flatFields at h
  by_cases ho : f.offset = off
  ·rw [if_pos ho] at h
   cases hk : g f.type with
   | none => simp [hk] at h
   | some k =>
    cases hr : flatFields g fs (off + k.length) with
    | none => simp [hk, hr] at h
    | some r =>
     simp [hk, hr] at h
     subst h
     obtain ⟨h1, h2⟩ := hf f (by simp) k hk
     have ih := flatFields_ok g cs fs (off + k.length) r hr (fun f' hf' => hf f' (by simp [hf']))
     rw [ho, ← h2] at h1
     have e : (cs.drop off).take (k ++ r).length = (cs.drop off).take k.length ++ (cs.drop (off + k.length)).take r.length := by
      rw [List.length_append, List.take_add, List.drop_drop]
     rw [e]
     exact h1.append ih
  ·rw [if_neg ho] at h; cases h
theorem flat_ok : ∀ (n : Nat) (t : TypeId) (ks : List CK) (fuel : Nat) (cs : List Value) (x : DataW H × List MemPlace),
  flat P n t = some ks → DataW.trod enc P w base spare held fuel t cs = some x → CellsOk ks cs
 | 0, _, _, _, _, _, h, _ => by simp [flat] at h
 | n + 1, t, ks, 0, cs, x, _, hx => by simp [DataW.trod] at hx
 | n + 1, t, ks, fuel + 1, cs, x, h, hx => by
  unfold flat at h
  unfold DataW.trod at hx
  cases hu : P.underlying t with
  | none => simp [hu] at h
  | some d =>
   rw [hu] at h hx
   cases d
   case bool =>
    simp at h; subst h
    split at hx <;> simp_all
    exact ⟨rfl, fun i k hk => by
     cases i with
     | zero => simp at hk; subst hk; exact ⟨_, rfl, _, rfl⟩
     | succ i => simp at hk⟩
   case int k0 =>
    simp at h; subst h
    split at hx <;> simp_all
    exact ⟨rfl, fun i k hk => by
     cases i with
     | zero => simp at hk; subst hk; exact ⟨_, rfl, _, rfl, by simp_all⟩
     | succ i => simp at hk⟩
   case string =>
    simp at h; subst h
    have hcs : ∃ s : ByteArray, cs = [.string s] ∧ s.size ≤ maxLen := by
     split at hx <;> simp_all
    obtain ⟨s, rfl, hs⟩ := hcs
    exact ⟨rfl, fun i k hk => by
     cases i with
     | zero => simp at hk; subst hk; exact ⟨_, rfl, s.data.toList, by rw [← bs_of], by unfold maxLen at hs; simpa using hs⟩
     | succ i => simp at hk⟩
   case struct fs =>
    simp only at h hx
    obtain ⟨h, hlen⟩ := sized_some h
    split at hx
    ·rename_i hl
     cases hm : (fs.toList.mapM fun f => DataW.trod enc P w base spare held fuel f.type ((cs.drop f.offset).take (P.cellsOf f.type))) with
     | none => simp [hm] at hx
     | some xs =>
      obtain ⟨_, hall⟩ := mapM_some _ _ _ hm
      have hk := flatFields_ok (P := P) _ cs fs.toList 0 ks h (fun f hf k hg => by
       obtain ⟨hq, hlen'⟩ := sized_some hg
       obtain ⟨i, hi⟩ := List.getElem?_of_mem hf
       obtain ⟨b, hb, _⟩ := hall i f hi
       exact ⟨flat_ok n f.type k fuel _ b hq hb, hlen'⟩)
      rw [List.drop_zero, hlen, ← hl, List.take_length] at hk
      exact hk
    ·cases hx
   case array m e =>
    simp only at h hx
    obtain ⟨h, hlen⟩ := sized_some h
    split at hx
    ·rename_i hl
     cases hq : (flat P n e).bind (sized P e) with
     | none => simp [hq] at h
     | some k =>
      rw [hq] at h
      simp at h
      obtain ⟨hq, hke⟩ := sized_some hq
      cases hm : ((List.range m).mapM fun i => DataW.trod enc P w base spare held fuel e ((cs.drop (i * P.cellsOf e)).take (P.cellsOf e))) with
      | none => simp [hm] at hx
      | some xs =>
       obtain ⟨_, hall⟩ := mapM_some _ _ _ hm
       have hrow : ∀ j, j ≤ m → CellsOk (List.replicate j k).flatten (cs.take (j * P.cellsOf e)) := by
        intro j
        induction j with
        | zero => intro _; simpa using CellsOk.nil_
        | succ j ih =>
         intro hj
         obtain ⟨b, hb, _⟩ := hall j j (by rw [List.getElem?_range (by omega)])
         have h1 := flat_ok n e k fuel _ b hq hb
         have e1 : (List.replicate (j + 1) k).flatten = (List.replicate j k).flatten ++ k := by
          rw [List.replicate_succ', List.flatten_append]; simp
         rw [e1, Nat.succ_mul, List.take_add]
         exact (ih (by omega)).append h1
       have := hrow m (Nat.le_refl _)
       rw [h] at this
       have e2 : m * P.cellsOf e = cs.length := by
        rw [hl, ← hlen, ← h]
        simp [hke]
       rw [e2, List.take_length] at this
       exact this
    ·cases hx
   all_goals simp at h
theorem open_flat {t : TypeId} {v : Value} {d : DataW H} {p : List MemPlace} {n : Nat} {ks : List CK} (hk : flat P n t = some ks)
  (h : DataW.Trod enc P w base spare held t v d p) : CellsOk ks v.cells.toList := by
 obtain ⟨fuel, hf⟩ := h
 exact flat_ok n t ks fuel _ _ hk hf
theorem cells?_at {a : Addr} {n : Nat} {cs : List Value} (h : w.cells? base a n = some cs) : cs.length = n ∧ ∀ (j : Nat) (u : Value), cs[j]? = some u → w.cell? (a.add j) = some u := by
 unfold World.cells? at h
 split at h
 ·obtain ⟨h1, h2⟩ := mapM_some _ _ _ h
  rw [List.length_range] at h1
  refine ⟨h1, fun j u hu => ?_⟩
  have hj : j < n := by
   rcases Nat.lt_or_ge j cs.length with hlt | hge
   ·omega
   ·rw [List.getElem?_eq_none hge] at hu; cases hu
  obtain ⟨b, hb, hr⟩ := h2 j j (by rw [List.getElem?_range hj])
  rw [hu] at hr
  injection hr with hr; subst hr
  exact hb
 ·cases h
theorem add_add (a : Addr) (i j : Nat) : (a.add i).add j = a.add (i + j) := by
 unfold Addr.add
 by_cases hi : i = 0 <;> by_cases hj : j = 0 <;> simp [hi, hj, Nat.add_assoc]
/-! ### an argument, opened; its reading stays as it is -/
variable {r : Reach} {b0 : Nat}
theorem open_agg_ {t : TypeId} {v : Value} {d : DataW H} {p : List MemPlace} {n : Nat} {ks : List CK} {D : TypeDesc} (hD : P.underlying t = some D) (ha : plainDesc D = false) (hk : flat P n t = some ks) (hv : Value.okWide P w r b0 t v)
  (h : DataW.Trod enc P w base spare held t v d p) : ∃ cs : Array Value, v = .agg cs ∧ CellsOk ks cs.toList := by
 have hcs : ∃ cs, v = .agg cs := by
  unfold Value.okWide at hv
  rw [hD] at hv
  cases D <;> simp [plainDesc] at ha
  ·obtain ⟨cs, h, _⟩ := hv; exact ⟨cs, h⟩
  ·obtain ⟨cs, h, _⟩ := hv; exact ⟨cs, h⟩
 obtain ⟨cs, rfl⟩ := hcs
 exact ⟨cs, rfl, open_flat hk h⟩
end
end Go.Proofs.YtbaedepmogkkeaaGreat
