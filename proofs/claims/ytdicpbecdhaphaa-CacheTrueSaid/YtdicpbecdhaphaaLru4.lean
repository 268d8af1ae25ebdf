/- lru: what an Lru in memory tells of its cells; how one turns into another. No program's law is stated here. No conditions. -/
import Derived.Test.YtdicpbecdhaphaaLru3
namespace Go.Proofs.Ytdicpbecdhaphaa.Av
open Go Go.RowKit
set_option linter.unusedVariables false
set_option linter.unusedSimpArgs false

section
variable {tk tL : TypeId} {zv : List Value} {w w' u : World} {g m h x a n : Nat} {ls l1 l2 : List Lk} {l hd : Lk} {most : Int} {k : List UInt8} {v : List Value}
theorem Alike.trans {a b c : World} (h : Alike a b) (k : Alike b c) : Alike a c := ⟨k.1.trans h.1, k.2.1.trans h.2.1, k.2.2.1.trans h.2.2.1, k.2.2.2.trans h.2.2.2⟩
theorem Alike.setCell (h : Alike u w) (p : Addr) (v : Value) : Alike (u.setCell p v) (w.setCell p v) := by
  obtain ⟨h1, h2, h3, h4⟩ := h
  refine ⟨?_, h2, h3, h4⟩
  unfold World.setCell
  simp only [h1]
theorem Alike.putMap (h : Alike u w) (r : Nat) (es : Array MapEntry) (c : Nat) : Alike (putMap u r es c) (putMap w r es c) := by
  obtain ⟨h1, h2, h3, h4⟩ := h
  refine ⟨?_, h2, h3, h4⟩
  unfold Av.putMap
  simp only [h1]
theorem Alike.drew (w : World) : Alike w w.drew := ⟨rfl, rfl, rfl, rfl⟩
theorem cellAt {us : Array Value} {t : TypeId} {fr : Nat × Nat} {j : Nat} (h : w.heap[x]? = some (.cells us t fr)) (hj : j < us.size) : w.cell? ⟨x, j, none⟩ = some (us.getD j undef) := cell_at h hj
theorem thawAt {us : Array Value} {t : TypeId} {j : Nat} (h : w.heap[x]? = some (.cells us t (0, 0))) (hj : j < us.size) : w.frozen? ⟨x, j, none⟩ = false := frozen_at h (by simp) hj
theorem Nd.at (h : Nd tk w x k v a n) : w.cell? ⟨x, 0, none⟩ = some (.string (bs k)) ∧ w.cell? ⟨x, v.length + 1, none⟩ = some (pnt a) ∧ w.cell? ⟨x, v.length + 2, none⟩ = some (pnt n) ∧ (∀ j (hj : j < v.length), w.cell? ⟨x, 1 + j, none⟩ = some v[j]) ∧ ∀ j, j < v.length + 3 → w.frozen? ⟨x, j, none⟩ = false := by
  have hs := lkC_size k v a n
  refine ⟨?_, ?_, ?_, fun j hj => ?_, fun j hj => thawAt h (by omega)⟩
  · rw [cellAt h (by omega), lkC_key]
  · rw [cellAt h (by omega), lkC_ahead]
  · rw [cellAt h (by omega), lkC_next]
  · rw [cellAt h (by omega), lkC_val _ _ _ _ hj]
theorem seg_node : ∀ {ls : List Lk} {p q : Nat}, Seg tk w p ls q → ∀ y ∈ ls, ∃ a n, Nd tk w y.x y.k y.v a n
  | [], _, _, _, y, hy => by cases hy
  | l :: ls, p, q, hs, y, hy => by
    rcases List.mem_cons.1 hy with rfl | hy
    · exact ⟨_, _, hs.1⟩
    · exact seg_node hs.2 y hy
theorem LruAt.node (A : LruAt tk tL zv w g m h ls most) {y : Lk} (hy : y ∈ (⟨h, [], zv⟩ : Lk) :: ls) : ∃ a n, Nd tk w y.x y.k y.v a n := seg_node A.ring y hy
theorem LruAt.head (A : LruAt tk tL zv w g m h ls most) : w.cell? ⟨g, 0, none⟩ = some (.int .i64 most) ∧ w.cell? ⟨g, 1, none⟩ = some (.map (some m)) ∧ w.cell? ⟨g, 2, none⟩ = some (pnt h) ∧ ∀ j, j < 3 → w.frozen? ⟨g, j, none⟩ = false :=
  ⟨cellAt A.hd (by show 0 < 3; omega), cellAt A.hd (by show 1 < 3; omega), cellAt A.hd (by show 2 < 3; omega), fun j hj => thawAt A.hd hj⟩
theorem LruAt.first (A : LruAt tk tL zv w g m h ls most) : Nd tk w h [] zv (lstB h ls) (fstB ls h) := A.ring.1
theorem LruAt.link (A : LruAt tk tL zv w g m h (l1 ++ l :: l2) most) : Nd tk w l.x l.k l.v (lstB h l1) (fstB l2 h) := (Rng.leave (vn := zv.length) A.ring A.apart fun y hy => by
  rcases List.mem_cons.1 hy with rfl | hy
  · rfl
  · exact A.vals y hy).1
theorem lst_mem (h : Nat) (zv : List Value) (ls : List Lk) : ∃ y ∈ (⟨h, [], zv⟩ : Lk) :: ls, lstB h ls = y.x := lstB_in ⟨h, [], zv⟩ ls h
theorem fst_mem (h : Nat) (zv : List Value) (ls : List Lk) : ∃ y ∈ (⟨h, [], zv⟩ : Lk) :: ls, fstB ls h = y.x := by
  cases ls with
  | nil => exact ⟨_, List.mem_cons_self, rfl⟩
  | cons y ls => exact ⟨y, by simp, rfl⟩
/-- the map's block is no link's -/
theorem LruAt.m_ne (A : LruAt tk tL zv w g m h ls most) {y : Lk} (hy : y ∈ (⟨h, [], zv⟩ : Lk) :: ls) : m ≠ y.x := fun e => by
  obtain ⟨a, n, h1⟩ := A.node hy
  obtain ⟨es, c, h2, _⟩ := A.mp
  rw [e, h1] at h2; cases h2
theorem LruAt.g_ne (A : LruAt tk tL zv w g m h ls most) {y : Lk} (hy : y ∈ (⟨h, [], zv⟩ : Lk) :: ls) : g ≠ y.x := by
  rcases List.mem_cons.1 hy with rfl | hy
  · exact A.g1.1
  · exact A.g1.2 y hy
theorem LruAt.gm (A : LruAt tk tL zv w g m h ls most) : g ≠ m := fun e => by
  obtain ⟨es, c, h2, _⟩ := A.mp
  rw [← e, A.hd] at h2; cases h2
theorem LruAt.alike (A : LruAt tk tL zv u g m h ls most) (e : Alike u w) : LruAt tk tL zv w g m h ls most := A.same (by rw [e.1]) fun x _ => by rw [e.1]
/-- an Lru turns into another one; nothing else does -/
def LruTurn (tk tL : TypeId) (zv : List Value) (w : World) (g m h : Nat) (ls : List Lk) (w' : World) (most' : Int) (xs' : List (List UInt8 × List Value)) : Prop :=
  ∃ m' h' ls', LruAt tk tL zv w' g m' h' ls' most' ∧ itemsOf ls' = xs' ∧ Held ⟨w, fun x => x = g ∨ hidB m h ls x, #[], []⟩ w' ∧ ∀ x, hidB m' h' ls' x → hidB m h ls x ∨ w.heap.size ≤ x
theorem LruTurn.refl (A : LruAt tk tL zv w g m h ls most) : LruTurn tk tL zv w g m h ls w most (itemsOf ls) := ⟨m, h, ls, A, rfl, Held.refl _, fun x hx => .inl hx⟩
/-- only these blocks turn -/
structure Only (w : World) (S : Nat → Prop) (w' : World) : Prop where
  os : w'.os = w.os
  tape : w'.tape = w.tape
  output : w'.output = w.output
  size : w.heap.size ≤ w'.heap.size
  block : ∀ k, k < w.heap.size → ¬ S k → w'.heap[k]? = w.heap[k]?
theorem Only.refl (w : World) (S : Nat → Prop) : Only w S w := ⟨rfl, rfl, rfl, Nat.le_refl _, fun _ _ _ => rfl⟩
theorem Only.setCell {S : Nat → Prop} (h : Only u S w) {x o : Nat} (hx : S x) (v : Value) : Only u S (w.setCell ⟨x, o, none⟩ v) :=
  ⟨h.os, h.tape, h.output, by simp [World.setCell]; exact h.size, fun k hk hn => (setCell_other (fun e : k = x => hn (by rw [e]; exact hx))).trans (h.block k hk hn)⟩
theorem Only.putMap {S : Nat → Prop} (h : Only u S w) {r : Nat} (hx : S r) (es : Array MapEntry) (c : Nat) : Only u S (putMap w r es c) :=
  ⟨h.os, h.tape, h.output, by simp [Av.putMap]; exact h.size, fun k hk hn => by
    rw [← h.block k hk hn]
    unfold Av.putMap
    rw [Array.getElem?_setIfInBounds, if_neg (fun e : r = k => hn (by rw [← e]; exact hx))]⟩
theorem Only.alike {S : Nat → Prop} (h : Only u S w) (e : Alike w w') : Only u S w' := ⟨e.2.1.trans h.os, e.2.2.1.trans h.tape, e.2.2.2.trans h.output, by rw [e.1]; exact h.size, fun k hk hn => by rw [e.1]; exact h.block k hk hn⟩
theorem Only.held {S : Nat → Prop} (h : Only u S w) : Held ⟨u, S, #[], []⟩ w := ⟨h.os, h.tape, h.output, h.size, fun k hk => h.block k (Nat.lt_of_not_le fun e => hk (.inl e)) fun e => hk (.inr e)⟩
theorem putMap_heap {r : Nat} {es : Array MapEntry} {c : Nat} (hr : r < w.heap.size) : (putMap w r es c).heap[r]? = some (.map es c) := by
  unfold Av.putMap
  simp [hr]
theorem putMap_other {r x : Nat} {es : Array MapEntry} {c : Nat} (h : x ≠ r) : (putMap w r es c).heap[x]? = w.heap[x]? := by
  unfold Av.putMap
  rw [Array.getElem?_setIfInBounds, if_neg (Ne.symm h)]
theorem heap_lt {o : Obj} (h : w.heap[x]? = some o) : x < w.heap.size := (Array.getElem?_eq_some_iff.1 h).1
/-- the two stores of a leaving -/
abbrev leaveW (w : World) (vn a n : Nat) : World := (w.setCell ⟨a, vn + 2, none⟩ (pnt n)).setCell ⟨n, vn + 1, none⟩ (pnt a)
/-- the four stores of a coming -/
abbrev lastW (w : World) (vn x h a : Nat) : World := (((w.setCell ⟨x, vn + 1, none⟩ (pnt a)).setCell ⟨x, vn + 2, none⟩ (pnt h)).setCell ⟨a, vn + 2, none⟩ (pnt x)).setCell ⟨h, vn + 1, none⟩ (pnt x)
theorem LruAt.allv (A : LruAt tk tL zv w g m h ls most) : ∀ y ∈ (⟨h, [], zv⟩ : Lk) :: ls, y.v.length = zv.length := fun y hy => by
  rcases List.mem_cons.1 hy with rfl | hy
  · rfl
  · exact A.vals y hy
/-- a link moves to the end: leaves, gets what it has anew, and comes -/
theorem LruAt.move (A : LruAt tk tL zv w g m h (l1 ++ l :: l2) most) {v' : List Value} (hv : v'.length = zv.length) {F : World → World} (hF : ∀ W a n, Nd tk W l.x l.k l.v a n → Nd tk (F W) l.x l.k v' a n) (hF2 : ∀ W x, x ≠ l.x → (F W).heap[x]? = W.heap[x]?) (hF3 : ∀ W S, Only w S W → S l.x → Only w S (F W)) :
    LruAt tk tL zv (lastW (F (leaveW w zv.length (lstB h l1) (fstB l2 h))) zv.length l.x h (lstB h (l1 ++ l2))) g m h (l1 ++ l2 ++ [⟨l.x, l.k, v'⟩]) most ∧
      Only w (fun x => x = g ∨ hidB m h (l1 ++ l :: l2) x) (lastW (F (leaveW w zv.length (lstB h l1) (fstB l2 h))) zv.length l.x h (lstB h (l1 ++ l2))) := by
  have hlm : l ∈ l1 ++ l :: l2 := by simp
  have hsub : List.Sublist (l1 ++ l2) (l1 ++ l :: l2) := List.Sublist.append (List.Sublist.refl _) (List.sublist_cons_self _ _)
  obtain ⟨n1, r1⟩ := Rng.leave (vn := zv.length) A.ring A.apart A.allv
  have hap := A.apart
  have hperm : List.Perm (l1 ++ l :: l2) (l1 ++ l2 ++ [l]) := (List.perm_middle (l₁ := l1) (a := l) (l₂ := l2)).trans (List.perm_append_singleton l (l1 ++ l2)).symm
  have hap2 : Apart ((⟨h, [], zv⟩ : Lk) :: (l1 ++ l2 ++ [l])) := ((hperm.cons _).map _).nodup_iff.1 hap
  have hap3 : Apart ((⟨h, [], zv⟩ : Lk) :: (l1 ++ l2 ++ [⟨l.x, l.k, v'⟩])) := by
    unfold Apart at hap2 ⊢
    simpa using hap2
  have hne : ∀ y ∈ (⟨h, [], zv⟩ : Lk) :: (l1 ++ l2), y.x ≠ l.x := fun y hy => by
    have : Apart (((⟨h, [], zv⟩ : Lk) :: (l1 ++ l2)) ++ [l]) := hap2
    exact ne_of_apart this hy (List.mem_singleton.2 rfl)
  obtain ⟨ya, hya, ea⟩ := lst_mem h zv l1
  obtain ⟨yn, hyn, en⟩ := fst_mem h zv l2
  obtain ⟨yp, hyp, ep⟩ := lst_mem h zv (l1 ++ l2)
  have in1 : ∀ y, y ∈ (⟨h, [], zv⟩ : Lk) :: l1 → y ∈ (⟨h, [], zv⟩ : Lk) :: (l1 ++ l2) := fun y hy => by
    rcases List.mem_cons.1 hy with rfl | hy
    · simp
    · simp [hy]
  have in2 : ∀ y, y ∈ (⟨h, [], zv⟩ : Lk) :: l2 → y ∈ (⟨h, [], zv⟩ : Lk) :: (l1 ++ l2) := fun y hy => by
    rcases List.mem_cons.1 hy with rfl | hy
    · simp
    · simp [hy]
  have in3 : ∀ y, y ∈ (⟨h, [], zv⟩ : Lk) :: (l1 ++ l2) → y ∈ (⟨h, [], zv⟩ : Lk) :: (l1 ++ l :: l2) := fun y hy => by
    rcases List.mem_cons.1 hy with rfl | hy
    · simp
    · exact List.mem_cons_of_mem _ (hsub.subset hy)
  have nl : Nd tk (leaveW w zv.length (lstB h l1) (fstB l2 h)) l.x l.k l.v (lstB h l1) (fstB l2 h) := by
    unfold Nd at n1 ⊢
    rw [setCell_other (by rw [en]; exact (hne yn (in2 yn hyn)).symm), setCell_other (by rw [ea]; exact (hne ya (in1 ya hya)).symm)]
    exact n1
  have nf := hF _ _ _ nl
  have rf : Rng tk (F (leaveW w zv.length (lstB h l1) (fstB l2 h))) ⟨h, [], zv⟩ (l1 ++ l2) := Seg.frame r1 fun y hy => hF2 _ _ (hne y hy)
  have rl := Rng.last (vn := zv.length) (l := ⟨l.x, l.k, v'⟩) rf nf hap3 (fun y hy => by
    rcases List.mem_cons.1 hy with rfl | hy
    · rfl
    · rcases List.mem_append.1 hy with hy | hy
      · exact A.vals y (hsub.subset hy)
      · rcases List.mem_singleton.1 hy with rfl; exact hv)
  have hid : ∀ y, y ∈ (⟨h, [], zv⟩ : Lk) :: (l1 ++ l :: l2) → y.x = g ∨ hidB m h (l1 ++ l :: l2) y.x := fun y hy => by
    rcases List.mem_cons.1 hy with rfl | hy
    · exact .inr (.inr (.inl rfl))
    · exact .inr (.inr (.inr ⟨y, hy, rfl⟩))
  have hx1 : lstB h l1 = g ∨ hidB m h (l1 ++ l :: l2) (lstB h l1) := by rw [ea]; exact hid ya (in3 _ (in1 ya hya))
  have hx2 : fstB l2 h = g ∨ hidB m h (l1 ++ l :: l2) (fstB l2 h) := by rw [en]; exact hid yn (in3 _ (in2 yn hyn))
  have hx3 : l.x = g ∨ hidB m h (l1 ++ l :: l2) l.x := hid l (List.mem_cons_of_mem _ hlm)
  have hx4 : lstB h (l1 ++ l2) = g ∨ hidB m h (l1 ++ l :: l2) (lstB h (l1 ++ l2)) := by rw [ep]; exact hid yp (in3 _ hyp)
  have hx5 : h = g ∨ hidB m h (l1 ++ l :: l2) h := .inr (.inr (.inl rfl))
  have hon : Only w (fun x => x = g ∨ hidB m h (l1 ++ l :: l2) x) (F (leaveW w zv.length (lstB h l1) (fstB l2 h))) :=
    hF3 _ _ (((Only.refl w _).setCell hx1 _).setCell hx2 _) hx3
  refine ⟨⟨?_, ?_, rl, hap3, ?_, fun y hy => ?_, A.g1.1, fun y hy => ?_⟩, (((hon.setCell hx3 _).setCell hx3 _).setCell hx4 _).setCell hx5 _⟩
  · have gl : g ≠ l.x := A.g1.2 l hlm
    rw [setCell_other A.g1.1, setCell_other (by rw [ep]; exact A.g_ne (in3 _ hyp)), setCell_other gl, setCell_other gl, hF2 _ _ gl, setCell_other (by rw [en]; exact A.g_ne (in3 _ (in2 yn hyn))), setCell_other (by rw [ea]; exact A.g_ne (in3 _ (in1 ya hya)))]
    exact A.hd
  · obtain ⟨es, c, h1, h2⟩ := A.mp
    have ml : m ≠ l.x := A.m_ne (List.mem_cons_of_mem _ hlm)
    refine ⟨es, c, ?_, ?_⟩
    · rw [setCell_other (A.m_ne (y := ⟨h, [], zv⟩) List.mem_cons_self), setCell_other (by rw [ep]; exact A.m_ne (in3 _ hyp)), setCell_other ml, setCell_other ml, hF2 _ _ ml, setCell_other (by rw [en]; exact A.m_ne (in3 _ (in2 yn hyn))), setCell_other (by rw [ea]; exact A.m_ne (in3 _ (in1 ya hya)))]
      exact h1
    · have h3 := h2.perm hperm
      unfold MapOk at h3 ⊢
      simpa [entOf] using h3
  · have := A.keys
    have h3 := (hperm.map (·.k)).nodup_iff.1 this
    simpa using h3
  · rcases List.mem_append.1 hy with hy | hy
    · exact A.vals y (hsub.subset hy)
    · rcases List.mem_singleton.1 hy with rfl; exact hv
  · rcases List.mem_append.1 hy with hy | hy
    · exact A.g1.2 y (hsub.subset hy)
    · rcases List.mem_singleton.1 hy with rfl; exact A.g1.2 l hlm
end
end Go.Proofs.Ytdicpbecdhaphaa.Av
