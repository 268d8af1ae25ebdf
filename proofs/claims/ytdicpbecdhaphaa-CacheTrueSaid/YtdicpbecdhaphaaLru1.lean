/- lru: a ring of links and a map, as they lie in memory: plain facts on how a link leaves and comes. No program's law is stated here. No conditions. -/
import Derived.Test.YtdicpbecdhaphaaMe
import Derived.Test.YtdicpbecdhaphaaBase
namespace Go.Proofs.Ytdicpbecdhaphaa.Av
open Go Go.RowKit
set_option linter.unusedVariables false
set_option linter.unusedSimpArgs false

/-- a link: its block, its key, the cells of what it has -/
structure Lk where
  x : Nat
  k : List UInt8
  v : List Value
abbrev pnt (g : Nat) : Value := .pointer (some ⟨g, 0, none⟩)
def lkC (k : List UInt8) (v : List Value) (a n : Nat) : Array Value := (Value.string (bs k) :: (v ++ [pnt a, pnt n])).toArray
theorem lkC_size (k : List UInt8) (v : List Value) (a n : Nat) : (lkC k v a n).size = v.length + 3 := by simp [lkC]
theorem lkC_key (k : List UInt8) (v : List Value) (a n : Nat) : (lkC k v a n).getD 0 undef = .string (bs k) := by simp [lkC]
theorem lkC_val (k : List UInt8) (v : List Value) (a n : Nat) {j : Nat} (h : j < v.length) : (lkC k v a n).getD (1 + j) undef = v[j] := by
  simp [lkC, Nat.add_comm 1 j, List.getElem?_append_left h, h]
theorem lkC_ahead (k : List UInt8) (v : List Value) (a n : Nat) : (lkC k v a n).getD (v.length + 1) undef = pnt a := by simp [lkC]
theorem lkC_next (k : List UInt8) (v : List Value) (a n : Nat) : (lkC k v a n).getD (v.length + 2) undef = pnt n := by simp [lkC]
theorem lkC_inj {k k' : List UInt8} {v v' : List Value} {a a' n n' : Nat} (h : lkC k v a n = lkC k' v' a' n') : k = k' ∧ v = v' ∧ a = a' ∧ n = n' := by
  have h1 : (Value.string (bs k) :: (v ++ [pnt a, pnt n])) = (Value.string (bs k') :: (v' ++ [pnt a', pnt n'])) := by
    have := congrArg Array.toList h
    simpa [lkC] using this
  injection h1 with h2 h3
  have h4 := List.append_inj' h3 rfl
  obtain ⟨h5, h6⟩ := h4
  injection h6 with h7 h8
  injection h8 with h9 _
  injection h2 with h2
  injection h7 with h7
  injection h7 with h7
  injection h7 with h7 _ _
  injection h9 with h9
  injection h9 with h9
  injection h9 with h9 _ _
  refine ⟨?_, h5, h7, h9⟩
  have := congrArg (fun b => b.data.toList) h2
  simpa [bs] using this
section
variable (tk : TypeId)
def Nd (w : World) (x : Nat) (k : List UInt8) (v : List Value) (a n : Nat) : Prop := w.heap[x]? = some (.cells (lkC k v a n) tk (0, 0))
def fstB : List Lk → Nat → Nat
  | [], q => q
  | l :: _, _ => l.x
def lstB : Nat → List Lk → Nat
  | p, [] => p
  | _, l :: ls => lstB l.x ls
def Seg (w : World) : Nat → List Lk → Nat → Prop
  | _, [], _ => True
  | p, l :: ls, q => Nd tk w l.x l.k l.v p (fstB ls q) ∧ Seg w l.x ls q
end
section
variable {tk : TypeId} {w w' : World}
theorem fstB_app : ∀ (a b : List Lk) (q : Nat), fstB (a ++ b) q = fstB a (fstB b q)
  | [], _, _ => rfl
  | _ :: _, _, _ => rfl
theorem lstB_app : ∀ (a b : List Lk) (p : Nat), lstB p (a ++ b) = lstB (lstB p a) b
  | [], _, _ => rfl
  | l :: a, b, p => lstB_app a b l.x
theorem lstB_in : ∀ (l : Lk) (ls : List Lk) (p : Nat), ∃ y ∈ l :: ls, lstB p (l :: ls) = y.x
  | l, [], p => ⟨l, List.mem_cons_self, rfl⟩
  | l, m :: ls, p => by
    obtain ⟨y, h1, h2⟩ := lstB_in m ls l.x
    exact ⟨y, List.mem_cons_of_mem _ h1, h2⟩
theorem lstB_any (l : Lk) (ls : List Lk) (p q : Nat) : lstB p (l :: ls) = lstB q (l :: ls) := rfl
theorem Seg.app : ∀ {a b : List Lk} {p q : Nat}, Seg tk w p (a ++ b) q ↔ Seg tk w p a (fstB b q) ∧ Seg tk w (lstB p a) b q
  | [], b, p, q => by simp [Seg, lstB]
  | l :: a, b, p, q => by
    have ih : Seg tk w l.x (a ++ b) q ↔ Seg tk w l.x a (fstB b q) ∧ Seg tk w (lstB l.x a) b q := Seg.app
    simp only [List.cons_append, Seg, lstB, fstB_app, and_assoc]
    rw [ih]
theorem Seg.frame : ∀ {ls : List Lk} {p q : Nat}, Seg tk w p ls q → (∀ l ∈ ls, w'.heap[l.x]? = w.heap[l.x]?) → Seg tk w' p ls q
  | [], _, _, _, _ => trivial
  | l :: ls, p, q, h, hf => ⟨(hf l List.mem_cons_self).trans h.1, Seg.frame h.2 fun m hm => hf m (List.mem_cons_of_mem _ hm)⟩
theorem setCell_heap {g o : Nat} {us : Array Value} {t : TypeId} {fr : Nat × Nat} (h : w.heap[g]? = some (.cells us t fr)) (v : Value) : (w.setCell ⟨g, o, none⟩ v).heap[g]? = some (.cells (us.setIfInBounds o v) t fr) := by
  have := heap_setCells (g := g) [v] us o w h
  simpa [World.setCells, setV] using this
theorem setCell_other {g o x : Nat} {v : Value} (h : x ≠ g) : (w.setCell ⟨g, o, none⟩ v).heap[x]? = w.heap[x]? := Below.heap_setCell w ⟨g, o, none⟩ v x h
theorem Nd.setNext {x a n n' : Nat} {k : List UInt8} {v : List Value} (h : Nd tk w x k v a n) : Nd tk (w.setCell ⟨x, v.length + 2, none⟩ (pnt n')) x k v a n' := by
  unfold Nd at *
  rw [setCell_heap h]
  congr 2
  apply Array.ext'
  simp [lkC]
theorem Nd.setAhead {x a n a' : Nat} {k : List UInt8} {v : List Value} (h : Nd tk w x k v a n) : Nd tk (w.setCell ⟨x, v.length + 1, none⟩ (pnt a')) x k v a' n := by
  unfold Nd at *
  rw [setCell_heap h]
  congr 2
  apply Array.ext'
  simp [lkC]
/-- all blocks are different -/
def Apart (ls : List Lk) : Prop := (ls.map (·.x)).Nodup
/-- the last one's next one turns -/
theorem Seg.setNext {vn : Nat} : ∀ {l : Lk} {ls : List Lk} {p q q' : Nat}, Seg tk w p (l :: ls) q → Apart (l :: ls) → (∀ m ∈ l :: ls, m.v.length = vn) → Seg tk (w.setCell ⟨lstB p (l :: ls), vn + 2, none⟩ (pnt q')) p (l :: ls) q'
  | l, [], p, q, q', h, _, hv => by
    have e := hv l List.mem_cons_self
    subst e
    exact ⟨Nd.setNext h.1, trivial⟩
  | l, m :: ls, p, q, q', h, hn, hv => by
    have hn' := List.nodup_cons.1 hn
    obtain ⟨y, hy, e⟩ := lstB_in m ls l.x
    refine ⟨?_, Seg.setNext (q' := q') h.2 hn'.2 fun z hz => hv z (List.mem_cons_of_mem _ hz)⟩
    show Nd tk _ l.x l.k l.v p m.x
    unfold Nd
    rw [setCell_other]
    · exact h.1
    · show l.x ≠ lstB l.x (m :: ls)
      rw [e]
      exact fun e2 => hn'.1 (List.mem_map.2 ⟨y, hy, e2.symm⟩)
/-- the first one's one ahead turns -/
theorem Seg.setAhead {vn : Nat} {l : Lk} {ls : List Lk} {p q p' : Nat} (h : Seg tk w p (l :: ls) q) (hn : Apart (l :: ls)) (hv : l.v.length = vn) : Seg tk (w.setCell ⟨l.x, vn + 1, none⟩ (pnt p')) p' (l :: ls) q := by
  subst hv
  refine ⟨Nd.setAhead h.1, h.2.frame fun m hm => setCell_other fun e => ?_⟩
  exact (List.nodup_cons.1 hn).1 (List.mem_map.2 ⟨m, hm, e⟩)
/-- a ring: its head, and the links behind it -/
def Rng (tk : TypeId) (w : World) (hd : Lk) (ls : List Lk) : Prop := Seg tk w (lstB hd.x ls) (hd :: ls) hd.x
variable {vn : Nat} {hd : Lk}
theorem Apart.sub {a b : List Lk} (h : Apart b) (hs : List.Sublist a b) : Apart a := List.Nodup.sublist (hs.map _) h
theorem ne_of_apart {a b : List Lk} (h : Apart (a ++ b)) {l m : Lk} (hl : l ∈ a) (hm : m ∈ b) : l.x ≠ m.x := by
  unfold Apart at h
  rw [List.map_append] at h
  have := List.nodup_append.1 h
  exact this.2.2 _ (List.mem_map_of_mem hl) _ (List.mem_map_of_mem hm)
/-- a link leaves -/
theorem Rng.leave {l1 l2 : List Lk} {l : Lk} (h : Rng tk w hd (l1 ++ l :: l2)) (hn : Apart (hd :: (l1 ++ l :: l2))) (hv : ∀ m ∈ hd :: (l1 ++ l :: l2), m.v.length = vn) :
    Nd tk w l.x l.k l.v (lstB hd.x l1) (fstB l2 hd.x) ∧ Rng tk ((w.setCell ⟨lstB hd.x l1, vn + 2, none⟩ (pnt (fstB l2 hd.x))).setCell ⟨fstB l2 hd.x, vn + 1, none⟩ (pnt (lstB hd.x l1))) hd (l1 ++ l2) := by
  unfold Rng at h
  have h' : Seg tk w (lstB hd.x (l1 ++ l :: l2)) ((hd :: l1) ++ (l :: l2)) hd.x := h
  obtain ⟨s1, s2⟩ := Seg.app.1 h'
  have s3 : Nd tk w l.x l.k l.v (lstB hd.x l1) (fstB l2 hd.x) := s2.1
  have s4 : Seg tk w l.x l2 hd.x := s2.2
  refine ⟨s3, ?_⟩
  have hsub : List.Sublist ((hd :: l1) ++ l2) ((hd :: l1) ++ (l :: l2)) := List.Sublist.append (List.Sublist.refl _) (List.sublist_cons_self _ _)
  have hn1 : Apart ((hd :: l1) ++ l2) := Apart.sub hn hsub
  have hn2 : Apart (hd :: l1) := Apart.sub hn1 (List.sublist_append_left _ _)
  have hn3 : Apart l2 := Apart.sub hn1 (List.sublist_append_right _ _)
  have hvs : ∀ m ∈ hd :: l1, m.v.length = vn := fun m hm => hv m (hsub.subset (List.mem_append_left _ hm))
  obtain ⟨y, hy, ey⟩ := lstB_in hd l1 hd.x
  have ey : lstB hd.x l1 = y.x := ey
  have t1 : Seg tk (w.setCell ⟨lstB hd.x l1, vn + 2, none⟩ (pnt (fstB l2 hd.x))) (lstB hd.x (l1 ++ l :: l2)) (hd :: l1) (fstB l2 hd.x) := by
    have := Seg.setNext (q' := fstB l2 hd.x) s1 hn2 hvs
    exact this
  have t2 : Seg tk (w.setCell ⟨lstB hd.x l1, vn + 2, none⟩ (pnt (fstB l2 hd.x))) l.x l2 hd.x := s4.frame fun m hm => setCell_other (by rw [ey]; exact (ne_of_apart hn1 hy hm).symm)
  unfold Rng
  show Seg tk _ (lstB hd.x (l1 ++ l2)) ((hd :: l1) ++ l2) hd.x
  cases l2 with
  | nil =>
    rw [List.append_nil, List.append_nil]
    exact Seg.setAhead t1 hn2 (hv hd List.mem_cons_self)
  | cons z l2 =>
    have e0 : lstB hd.x (l1 ++ z :: l2) = lstB hd.x (l1 ++ l :: z :: l2) := by rw [lstB_app, lstB_app]; rfl
    rw [e0]
    refine Seg.app.2 ⟨?_, ?_⟩
    · show Seg tk _ _ (hd :: l1) z.x
      exact t1.frame fun m hm => setCell_other (ne_of_apart hn1 hm List.mem_cons_self)
    · show Seg tk _ (lstB hd.x l1) (z :: l2) hd.x
      exact Seg.setAhead t2 hn3 (hv z (hsub.subset (List.mem_append_right _ List.mem_cons_self)))
/-- a link comes, ahead of the head -/
theorem Rng.last2 {ls : List Lk} {l : Lk} (h : Rng tk w hd ls) (n1 : Nd tk ((w.setCell ⟨l.x, vn + 1, none⟩ (pnt (lstB hd.x ls))).setCell ⟨l.x, vn + 2, none⟩ (pnt hd.x)) l.x l.k l.v (lstB hd.x ls) hd.x) (hn : Apart (hd :: (ls ++ [l]))) (hv : ∀ m ∈ hd :: (ls ++ [l]), m.v.length = vn) :
    Rng tk ((((w.setCell ⟨l.x, vn + 1, none⟩ (pnt (lstB hd.x ls))).setCell ⟨l.x, vn + 2, none⟩ (pnt hd.x)).setCell ⟨lstB hd.x ls, vn + 2, none⟩ (pnt l.x)).setCell ⟨hd.x, vn + 1, none⟩ (pnt l.x)) hd (ls ++ [l]) := by
  have hlv : l.v.length = vn := hv l (by simp)
  have hn' : Apart ((hd :: ls) ++ [l]) := hn
  have hn2 : Apart (hd :: ls) := Apart.sub hn' (List.sublist_append_left _ _)
  obtain ⟨y, hy, ey⟩ := lstB_in hd ls hd.x
  have ey : lstB hd.x ls = y.x := ey
  have hyl : y.x ≠ l.x := ne_of_apart hn' hy (List.mem_singleton.2 rfl)
  have hhl : hd.x ≠ l.x := ne_of_apart hn' List.mem_cons_self (List.mem_singleton.2 rfl)
  have n2 : Nd tk ((((w.setCell ⟨l.x, vn + 1, none⟩ (pnt (lstB hd.x ls))).setCell ⟨l.x, vn + 2, none⟩ (pnt hd.x)).setCell ⟨lstB hd.x ls, vn + 2, none⟩ (pnt l.x)).setCell ⟨hd.x, vn + 1, none⟩ (pnt l.x)) l.x l.k l.v (lstB hd.x ls) hd.x := by
    unfold Nd at n1 ⊢
    rw [setCell_other (Ne.symm hhl), setCell_other (by rw [ey]; exact Ne.symm hyl)]
    exact n1
  have s0 : Seg tk ((w.setCell ⟨l.x, vn + 1, none⟩ (pnt (lstB hd.x ls))).setCell ⟨l.x, vn + 2, none⟩ (pnt hd.x)) (lstB hd.x ls) (hd :: ls) hd.x :=
    Seg.frame (w := w) h fun m hm => by
      have := ne_of_apart hn' hm (List.mem_singleton.2 (rfl : l = l))
      rw [setCell_other this, setCell_other this]
  have s1 := Seg.setNext (q' := l.x) s0 hn2 fun m hm => hv m (by
    rcases List.mem_cons.1 hm with rfl | hm
    · exact List.mem_cons_self
    · exact List.mem_cons_of_mem _ (List.mem_append_left _ hm))
  have s2 := Seg.setAhead (p' := l.x) s1 hn2 (hv hd List.mem_cons_self)
  unfold Rng
  show Seg tk _ (lstB hd.x (ls ++ [l])) ((hd :: ls) ++ [l]) hd.x
  have e0 : lstB hd.x (ls ++ [l]) = l.x := by rw [lstB_app]; rfl
  rw [e0]
  exact Seg.app.2 ⟨s2, n2, trivial⟩
theorem Rng.last {ls : List Lk} {l : Lk} {a0 n0 : Nat} (h : Rng tk w hd ls) (hl : Nd tk w l.x l.k l.v a0 n0) (hn : Apart (hd :: (ls ++ [l]))) (hv : ∀ m ∈ hd :: (ls ++ [l]), m.v.length = vn) :
    Rng tk ((((w.setCell ⟨l.x, vn + 1, none⟩ (pnt (lstB hd.x ls))).setCell ⟨l.x, vn + 2, none⟩ (pnt hd.x)).setCell ⟨lstB hd.x ls, vn + 2, none⟩ (pnt l.x)).setCell ⟨hd.x, vn + 1, none⟩ (pnt l.x)) hd (ls ++ [l]) := by
  refine Rng.last2 h ?_ hn hv
  have hlv : l.v.length = vn := hv l (by simp)
  subst hlv
  exact Nd.setNext (Nd.setAhead hl)
end
end Go.Proofs.Ytdicpbecdhaphaa.Av
