/- lru: an Lru as it lies in memory: its header, its map, its ring; as an object that hides what it holds. No program's law is stated here. No conditions. -/
import Derived.Test.YtdicpbecdhaphaaLru1
import Derived.MapKept
namespace Go.Proofs.Ytdicpbecdhaphaa.Av
open Go Go.RowKit
set_option linter.unusedVariables false
set_option linter.unusedSimpArgs false

/-- the entries of a map from keys to links -/
def entOf (l : Lk) : Value × Value := (.string (bs l.k), pnt l.x)
def MapOk (es : List MapEntry) (ls : List Lk) : Prop := List.Perm (es.map fun e => (e.key, e.val)) (ls.map entOf)
/-- an Lru: where its map, its head, and its links lie -/
structure LruAt (tk tL : TypeId) (zv : List Value) (w : World) (g m h : Nat) (ls : List Lk) (most : Int) : Prop where
  hd : w.heap[g]? = some (.cells #[.int .i64 most, .map (some m), pnt h] tL (0, 0))
  mp : ∃ es clock, w.heap[m]? = some (.map es clock) ∧ MapOk es.toList ls
  ring : Rng tk w ⟨h, [], zv⟩ ls
  apart : Apart (⟨h, [], zv⟩ :: ls)
  keys : (ls.map (·.k)).Nodup
  vals : ∀ l ∈ ls, l.v.length = zv.length
  g1 : g ≠ h ∧ ∀ l ∈ ls, g ≠ l.x
section
variable {tk tL : TypeId} {zv : List Value} {w w' : World} {g m h m' h' : Nat} {ls ls' : List Lk} {most : Int}
theorem seg_uniq : ∀ {ls ls' : List Lk} {p q q' : Nat}, Seg tk w p ls q → Seg tk w p ls' q' → fstB ls q = fstB ls' q' → ls.length = ls'.length → ls = ls'
  | [], [], _, _, _, _, _, _, _ => rfl
  | [], _ :: _, _, _, _, _, _, _, h => by simp at h
  | _ :: _, [], _, _, _, _, _, _, h => by simp at h
  | ⟨x, k, v⟩ :: ls, ⟨x', k', v'⟩ :: ls', p, q, q', h1, h2, hf, hl => by
    have hf : x = x' := hf
    subst hf
    have e := h1.1.symm.trans h2.1
    injection e with e
    injection e with e _ _
    obtain ⟨e1, e2, _, e4⟩ := lkC_inj e
    subst e1 e2
    rw [seg_uniq h1.2 h2.2 e4 (by simpa using hl)]
theorem LruAt.uniq (a : LruAt tk tL zv w g m h ls most) (b : LruAt tk tL zv w g m' h' ls' most) (hl : ls.length = ls'.length) : m = m' ∧ h = h' ∧ ls = ls' := by
  have e := a.hd.symm.trans b.hd
  injection e with e
  injection e with e _ _
  have e := congrArg Array.toList e
  simp only [List.cons.injEq, Value.map.injEq, Option.some.injEq, Value.pointer.injEq, Addr.mk.injEq, and_true, true_and] at e
  obtain ⟨rfl, rfl⟩ := e
  refine ⟨rfl, rfl, ?_⟩
  have r1 := a.ring
  have r2 := b.ring
  unfold Rng at r1 r2
  have e := r1.1.symm.trans r2.1
  injection e with e
  injection e with e _ _
  exact seg_uniq r1.2 r2.2 (lkC_inj e).2.2.2 hl
/-- what it hides -/
def hidB (m h : Nat) (ls : List Lk) (x : Nat) : Prop := x = m ∨ x = h ∨ ∃ l ∈ ls, x = l.x
theorem LruAt.same (a : LruAt tk tL zv w g m h ls most) (hg : w'.heap[g]? = w.heap[g]?) (hx : ∀ x, hidB m h ls x → w'.heap[x]? = w.heap[x]?) : LruAt tk tL zv w' g m h ls most := by
  refine ⟨hg.trans a.hd, ?_, ?_, a.apart, a.keys, a.vals, a.g1⟩
  · obtain ⟨es, clock, h1, h2⟩ := a.mp
    exact ⟨es, clock, (hx m (.inl rfl)).trans h1, h2⟩
  · refine Seg.frame a.ring fun l hl => hx _ ?_
    rcases List.mem_cons.1 hl with rfl | hl
    · exact .inr (.inl rfl)
    · exact .inr (.inr ⟨l, hl, rfl⟩)
end
/-- its keys, and what they have, the one that was used longest ago first -/
def itemsOf (ls : List Lk) : List (List UInt8 × List Value) := ls.map fun l => (l.k, l.v)
def lruOb (tk tL : TypeId) (zv : List Value) (most : Int) (xs : List (List UInt8 × List Value)) : Ob where
  fp w g x := ∃ m h ls, LruAt tk tL zv w g m h ls most ∧ itemsOf ls = xs ∧ hidB m h ls x
  K w g := ∃ m h ls, LruAt tk tL zv w g m h ls most ∧ itemsOf ls = xs
  law := by
    rintro w w' g ⟨m, h, ls, a, e⟩ hg hx
    have a' := a.same hg fun x hh => hx x ⟨m, h, ls, a, e, hh⟩
    refine ⟨⟨m, h, ls, a', e⟩, fun x => ⟨?_, ?_⟩⟩
    · rintro ⟨m1, h1, ls1, b, e1, hh⟩
      obtain ⟨rfl, rfl, rfl⟩ := a'.uniq b (by have := congrArg List.length (e.trans e1.symm); simpa [itemsOf] using this)
      exact ⟨_, _, _, a, e, hh⟩
    · rintro ⟨m1, h1, ls1, b, e1, hh⟩
      obtain ⟨rfl, rfl, rfl⟩ := a.uniq b (by have := congrArg List.length (e.trans e1.symm); simpa [itemsOf] using this)
      exact ⟨_, _, _, a', e, hh⟩
  nd := by
    rintro w g x d - ⟨m, h, ls, a, e, hh⟩ hd
    have nd : ∀ l ∈ (⟨h, [], zv⟩ : Lk) :: ls, ∃ us fr, w.heap[l.x]? = some (.cells us tk fr) := by
      have key : ∀ {ls : List Lk} {p q : Nat}, Seg tk w p ls q → ∀ l ∈ ls, ∃ us fr, w.heap[l.x]? = some (.cells us tk fr) := by
        intro ls
        induction ls with
        | nil => intro p q _ l hl; cases hl
        | cons y ls ih =>
          intro p q hs l hl
          rcases List.mem_cons.1 hl with rfl | hl
          · exact ⟨_, _, hs.1⟩
          · exact ih hs.2 l hl
      exact key a.ring
    rcases hh with rfl | rfl | ⟨l, hl, rfl⟩
    · obtain ⟨es, clock, h1, _⟩ := a.mp
      rw [h1] at hd; cases hd
    · obtain ⟨us, fr, h1⟩ := nd _ List.mem_cons_self
      rw [show (⟨x, [], zv⟩ : Lk).x = x from rfl] at h1
      rw [h1] at hd; cases hd
    · obtain ⟨us, fr, h1⟩ := nd l (List.mem_cons_of_mem _ hl)
      rw [h1] at hd; cases hd
/-- an Lru as a block of the machine -/
abbrev lruB (tk tL : TypeId) (zv : List Value) (most : Int) (xs : List (List UInt8 × List Value)) : ABlk := ⟨[.ob (lruOb tk tL zv most xs)], none, false, true⟩
/-! ### looking up -/
section
variable {ls : List Lk}
theorem findNow_str (k : ByteArray) : ∀ (es : List MapEntry) (i : Nat), (∀ e ∈ es, ∃ s, e.key = .string s) →
    (∃ (j : Nat) (e : MapEntry), es[j]? = some e ∧ e.key = .string k ∧ Instr.findNow .string (.string k) es i = some (some (i + j, e.val))) ∨ ((∀ e ∈ es, e.key ≠ .string k) ∧ Instr.findNow .string (.string k) es i = some none)
  | [], i, _ => .inr ⟨fun e he => (by cases he), rfl⟩
  | e :: es, i, h => by
    obtain ⟨s, hs⟩ := h e List.mem_cons_self
    have e1 : Instr.sameNow .string (.string k) e.key = some (k == s) := by rw [hs]; rfl
    unfold Instr.findNow
    rw [e1]
    cases hk : (k == s) with
    | true =>
      have hk : k = s := (Go.MapKept.bytes_beq k s).1 hk
      subst hk
      exact .inl ⟨0, e, rfl, hs, rfl⟩
    | false =>
      have hk : k ≠ s := fun e => by rw [(Go.MapKept.bytes_beq k s).2 e] at hk; cases hk
      rcases findNow_str k es (i + 1) (fun e he => h e (List.mem_cons_of_mem _ he)) with ⟨j, e', h1, h2, h3⟩ | ⟨h1, h2⟩
      · exact .inl ⟨j + 1, e', by simpa using h1, h2, by show Instr.findNow _ _ es (i + 1) = _; rw [h3, show i + 1 + j = i + (j + 1) by omega]⟩
      · refine .inr ⟨fun e' he => ?_, h2⟩
        rcases List.mem_cons.1 he with rfl | he
        · rw [hs]; intro e; injection e with e; exact hk e.symm
        · exact h1 e' he
theorem MapOk.strs {es : List MapEntry} (h : MapOk es ls) : ∀ e ∈ es, ∃ l ∈ ls, e.key = .string (bs l.k) ∧ e.val = pnt l.x := fun e he => by
  have h1 : (e.key, e.val) ∈ ls.map entOf := h.subset (List.mem_map_of_mem (f := fun e : MapEntry => (e.key, e.val)) he)
  obtain ⟨l, hl, e1⟩ := List.mem_map.1 h1
  simp only [entOf, Prod.mk.injEq] at e1
  exact ⟨l, hl, e1.1.symm, e1.2.symm⟩
theorem MapOk.len {es : List MapEntry} (h : MapOk es ls) : es.length = ls.length := by
  have := h.length_eq; simpa using this
theorem bs_inj {a b : List UInt8} (h : bs a = bs b) : a = b := by
  have := congrArg (fun b => b.data.toList) h
  simpa [bs] using this
/-- a key that is there -/
theorem MapOk.find {es : List MapEntry} (h : MapOk es ls) (hk : (ls.map (·.k)).Nodup) {l : Lk} (hl : l ∈ ls) :
    ∃ (j : Nat) (e : MapEntry), es[j]? = some e ∧ e.key = .string (bs l.k) ∧ e.val = pnt l.x ∧ Instr.findNow .string (.string (bs l.k)) es 0 = some (some (j, pnt l.x)) := by
  rcases findNow_str (bs l.k) es 0 (fun e he => by obtain ⟨m, _, e1, _⟩ := h.strs e he; exact ⟨_, e1⟩) with ⟨j, e, h1, h2, h3⟩ | ⟨h1, _⟩
  · obtain ⟨m, hm, e1, e2⟩ := h.strs e (List.mem_of_getElem? h1)
    rw [e1] at h2
    injection h2 with h2
    have hkk := bs_inj h2
    have : m = l := by
      clear h h1 h3 e1 e2 h2
      induction ls with
      | nil => cases hl
      | cons y ls ih =>
        have hk' := List.nodup_cons.1 hk
        rcases List.mem_cons.1 hl with rfl | hl
        · rcases List.mem_cons.1 hm with rfl | hm
          · rfl
          · exact absurd (List.mem_map.2 ⟨m, hm, hkk⟩) hk'.1
        · rcases List.mem_cons.1 hm with e0 | hm
          · exact absurd (List.mem_map.2 ⟨l, hl, by rw [← hkk, e0]⟩) hk'.1
          · exact ih hk'.2 hl hm
    subst this
    rw [Nat.zero_add, e2] at h3
    exact ⟨j, e, h1, e1, e2, h3⟩
  · have h2 : entOf l ∈ es.map fun e => (e.key, e.val) := h.symm.subset (List.mem_map_of_mem hl)
    obtain ⟨e, he, e1⟩ := List.mem_map.1 h2
    simp only [entOf, Prod.mk.injEq] at e1
    exact absurd e1.1 (h1 e he)
/-- a key that is not there -/
theorem MapOk.none {es : List MapEntry} (h : MapOk es ls) {k : List UInt8} (hk : ∀ l ∈ ls, l.k ≠ k) : Instr.findNow .string (.string (bs k)) es 0 = some none := by
  rcases findNow_str (bs k) es 0 (fun e he => by obtain ⟨m, _, e1, _⟩ := h.strs e he; exact ⟨_, e1⟩) with ⟨j, e, h1, h2, h3⟩ | ⟨_, h2⟩
  · obtain ⟨m, hm, e1, _⟩ := h.strs e (List.mem_of_getElem? h1)
    rw [e1] at h2
    injection h2 with h2
    exact absurd (bs_inj h2) (hk m hm)
  · exact h2
theorem MapOk.push {es : Array MapEntry} (h : MapOk es.toList ls) (l : Lk) (n : Nat) : MapOk (es.push ⟨.string (bs l.k), pnt l.x, n⟩).toList (ls ++ [l]) := by
  unfold MapOk at *
  rw [Array.toList_push, List.map_append, List.map_append]
  exact List.Perm.append h (List.Perm.refl _)
theorem MapOk.perm {es : List MapEntry} {ls' : List Lk} (h : MapOk es ls) (hp : List.Perm ls ls') : MapOk es ls' := h.trans (hp.map _)
/-- a key that is there is taken out -/
theorem MapOk.erase {es : Array MapEntry} {l1 l2 : List Lk} {l : Lk} (h : MapOk es.toList (l1 ++ l :: l2)) {j : Nat} {e : MapEntry} (hj : es.toList[j]? = some e) (hk : e.key = .string (bs l.k)) (hv : e.val = pnt l.x) :
    MapOk (es.eraseIdxIfInBounds j).toList (l1 ++ l2) := by
  obtain ⟨hlt, he⟩ := List.getElem?_eq_some_iff.1 hj
  have hlt' : j < es.size := by simpa using hlt
  have e1 : (es.eraseIdxIfInBounds j).toList = es.toList.eraseIdx j := by
    simp [Array.eraseIdxIfInBounds, hlt', Array.toList_eraseIdx]
  unfold MapOk at *
  rw [e1]
  have p1 : List.Perm (es.toList.map fun e => (e.key, e.val)) (entOf l :: (es.toList.eraseIdx j).map fun e => (e.key, e.val)) := by
    have h2 : List.Perm es.toList (e :: es.toList.eraseIdx j) := by
      have h9 : ∀ (l : List MapEntry) (j : Nat) (h : j < l.length), List.Perm l (l[j] :: l.eraseIdx j) := by
        intro l
        induction l with
        | nil => intro j h; simp at h
        | cons a l ih =>
          intro j h
          cases j with
          | zero => exact List.Perm.refl _
          | succ j => exact ((ih j (by simpa using h)).cons a).trans (List.Perm.swap _ _ _)
      have := h9 es.toList j hlt
      rw [he] at this
      exact this
    have h3 := h2.map fun e : MapEntry => (e.key, e.val)
    have h4 : (e.key, e.val) = entOf l := by rw [hk, hv]; rfl
    rw [List.map_cons, h4] at h3
    exact h3
  have p2 : List.Perm ((l1 ++ l :: l2).map entOf) (entOf l :: (l1 ++ l2).map entOf) := (List.perm_middle (l₁ := l1) (a := l) (l₂ := l2)).map entOf
  exact (p1.symm.trans (h.trans p2)).cons_inv
end
end Go.Proofs.Ytdicpbecdhaphaa.Av
