/- lru: how a key goes, and how one comes. No program's law is stated here. No conditions. -/
import Derived.Test.YtdicpbecdhaphaaLru4
namespace Go.Proofs.Ytdicpbecdhaphaa.Av
open Go Go.RowKit
set_option linter.unusedVariables false
set_option linter.unusedSimpArgs false

section
variable {tk tL : TypeId} {zv : List Value} {w w' u : World} {g m h x a n : Nat} {ls l1 l2 : List Lk} {l hd : Lk} {most : Int} {k : List UInt8} {v : List Value}
/-- a key goes -/
theorem LruAt.removed (A : LruAt tk tL zv w g m h (l1 ++ l :: l2) most) {es : Array MapEntry} {c j : Nat} {e : MapEntry} (hm : w.heap[m]? = some (.map es c)) (ho : MapOk es.toList (l1 ++ l :: l2)) (hj : es.toList[j]? = some e) (hk : e.key = .string (bs l.k)) (hv : e.val = pnt l.x) :
    LruAt tk tL zv (putMap (leaveW w zv.length (lstB h l1) (fstB l2 h)) m (es.eraseIdxIfInBounds j) c) g m h (l1 ++ l2) most ∧
      Only w (fun x => x = g ∨ hidB m h (l1 ++ l :: l2) x) (putMap (leaveW w zv.length (lstB h l1) (fstB l2 h)) m (es.eraseIdxIfInBounds j) c) := by
  have hsub : List.Sublist (l1 ++ l2) (l1 ++ l :: l2) := List.Sublist.append (List.Sublist.refl _) (List.sublist_cons_self _ _)
  obtain ⟨n1, r1⟩ := Rng.leave (vn := zv.length) A.ring A.apart A.allv
  obtain ⟨ya, hya, ea⟩ := lst_mem h zv l1
  obtain ⟨yn, hyn, en⟩ := fst_mem h zv l2
  have in1 : ∀ y, y ∈ (⟨h, [], zv⟩ : Lk) :: l1 → y ∈ (⟨h, [], zv⟩ : Lk) :: (l1 ++ l :: l2) := fun y hy => by
    rcases List.mem_cons.1 hy with rfl | hy
    · simp
    · simp [hy]
  have in2 : ∀ y, y ∈ (⟨h, [], zv⟩ : Lk) :: l2 → y ∈ (⟨h, [], zv⟩ : Lk) :: (l1 ++ l :: l2) := fun y hy => by
    rcases List.mem_cons.1 hy with rfl | hy
    · simp
    · simp [hy]
  have hid : ∀ y, y ∈ (⟨h, [], zv⟩ : Lk) :: (l1 ++ l :: l2) → y.x = g ∨ hidB m h (l1 ++ l :: l2) y.x := fun y hy => by
    rcases List.mem_cons.1 hy with rfl | hy
    · exact .inr (.inr (.inl rfl))
    · exact .inr (.inr (.inr ⟨y, hy, rfl⟩))
  have hx1 : lstB h l1 = g ∨ hidB m h (l1 ++ l :: l2) (lstB h l1) := by rw [ea]; exact hid ya (in1 ya hya)
  have hx2 : fstB l2 h = g ∨ hidB m h (l1 ++ l :: l2) (fstB l2 h) := by rw [en]; exact hid yn (in2 yn hyn)
  have hap3 : Apart ((⟨h, [], zv⟩ : Lk) :: (l1 ++ l2)) := Apart.sub A.apart (hsub.cons_cons _)
  have hms : m < (leaveW w zv.length (lstB h l1) (fstB l2 h)).heap.size := by
    have := heap_lt hm
    simpa [World.setCell] using this
  refine ⟨⟨?_, ⟨_, c, putMap_heap hms, ho.erase hj hk hv⟩, Seg.frame r1 fun y hy => putMap_other (A.m_ne ?_).symm, hap3, List.Nodup.sublist (hsub.map _) A.keys, fun y hy => A.vals y (hsub.subset hy), A.g1.1, fun y hy => A.g1.2 y (hsub.subset hy)⟩,
    (((Only.refl w _).setCell hx1 _).setCell hx2 _).putMap (.inr (.inl rfl)) _ _⟩
  · rw [putMap_other A.gm, setCell_other (by rw [en]; exact A.g_ne (in2 yn hyn)), setCell_other (by rw [ea]; exact A.g_ne (in1 ya hya))]
    exact A.hd
  · rcases List.mem_cons.1 hy with rfl | hy
    · exact List.mem_cons_self
    · exact List.mem_cons_of_mem _ (hsub.subset hy)
/-- a key comes: a new link, in the map already -/
theorem LruAt.added (A : LruAt tk tL zv w g m h ls most) {W : World} {es : Array MapEntry} {c : Nat} (hxn : ∀ y ∈ (⟨h, [], zv⟩ : Lk) :: ls, y.x ≠ x) (hxg : g ≠ x) (hxm : m ≠ x) (hkn : ∀ y ∈ ls, y.k ≠ k) (hv : v.length = zv.length)
    (ho : MapOk es.toList ls) (hW : ∀ y, y < w.heap.size → y ≠ m → W.heap[y]? = w.heap[y]?) (hWm : W.heap[m]? = some (.map (es.push ⟨.string (bs k), pnt x, c⟩) (c + 1)))
    (hN : Nd tk ((W.setCell ⟨x, zv.length + 1, none⟩ (pnt (lstB h ls))).setCell ⟨x, zv.length + 2, none⟩ (pnt h)) x k v (lstB h ls) h) :
    LruAt tk tL zv (lastW W zv.length x h (lstB h ls)) g m h (ls ++ [⟨x, k, v⟩]) most := by
  obtain ⟨ya, hya, ea⟩ := lst_mem h zv ls
  have hlt : ∀ y ∈ (⟨h, [], zv⟩ : Lk) :: ls, y.x < w.heap.size := fun y hy => by
    obtain ⟨a, n, h1⟩ := A.node hy
    exact heap_lt h1
  have hrW : Rng tk W ⟨h, [], zv⟩ ls := Seg.frame A.ring fun y hy => hW _ (hlt y hy) (A.m_ne hy).symm
  have hap : Apart ((⟨h, [], zv⟩ : Lk) :: (ls ++ [⟨x, k, v⟩])) := by
    show Apart (((⟨h, [], zv⟩ : Lk) :: ls) ++ [⟨x, k, v⟩])
    unfold Apart
    rw [List.map_append]
    refine List.nodup_append.2 ⟨A.apart, by simp, fun a ha b hb => ?_⟩
    obtain ⟨y, hy, rfl⟩ := List.mem_map.1 ha
    simp only [List.map_cons, List.map_nil, List.mem_singleton] at hb
    subst hb
    exact hxn y hy
  have rl := Rng.last2 (vn := zv.length) (l := ⟨x, k, v⟩) hrW hN hap (fun y hy => by
    rcases List.mem_cons.1 hy with rfl | hy
    · rfl
    · rcases List.mem_append.1 hy with hy | hy
      · exact A.vals y hy
      · rcases List.mem_singleton.1 hy with rfl; exact hv)
  refine ⟨?_, ⟨es.push ⟨.string (bs k), pnt x, c⟩, c + 1, ?_, ho.push ⟨x, k, v⟩ c⟩, rl, hap, ?_, fun y hy => ?_, A.g1.1, fun y hy => ?_⟩
  · rw [setCell_other A.g1.1, setCell_other (by rw [ea]; exact A.g_ne hya), setCell_other hxg, setCell_other hxg, hW g (heap_lt A.hd) A.gm]
    exact A.hd
  · rw [setCell_other (A.m_ne (y := ⟨h, [], zv⟩) List.mem_cons_self), setCell_other (by rw [ea]; exact A.m_ne hya), setCell_other hxm, setCell_other hxm]
    exact hWm
  · rw [List.map_append]
    refine List.nodup_append.2 ⟨A.keys, by simp, fun a ha b hb => ?_⟩
    obtain ⟨y, hy, rfl⟩ := List.mem_map.1 ha
    simp only [List.map_cons, List.map_nil, List.mem_singleton] at hb
    subst hb
    exact hkn y hy
  · rcases List.mem_append.1 hy with hy | hy
    · exact A.vals y hy
    · rcases List.mem_singleton.1 hy with rfl; exact hv
  · rcases List.mem_append.1 hy with hy | hy
    · exact A.g1.2 y hy
    · rcases List.mem_singleton.1 hy with rfl; exact hxg
/-- an empty one -/
theorem LruAt.empty {c : Nat} (hgm : g ≠ h) (h1 : w.heap[g]? = some (.cells #[.int .i64 most, .map (some m), pnt h] tL (0, 0))) (h2 : w.heap[m]? = some (.map #[] c)) (h3 : Nd tk w h [] zv h h) : LruAt tk tL zv w g m h [] most :=
  ⟨h1, ⟨#[], c, h2, List.Perm.refl _⟩, ⟨h3, trivial⟩, by simp [Apart], by simp, fun y hy => (by cases hy), hgm, fun y hy => (by cases hy)⟩
theorem Alike.cell (e : Alike u w) (p : Addr) : w.cell? p = u.cell? p := by simp only [World.cell?, e.1]
theorem Alike.frozen (e : Alike u w) (p : Addr) : w.frozen? p = u.frozen? p := by simp only [World.frozen?, e.1]
/-- between a leaving and a coming -/
theorem LruAt.mid (A : LruAt tk tL zv w g m h (l1 ++ l :: l2) most) {v' : List Value} {F : World → World} (hF : ∀ W a n, Nd tk W l.x l.k l.v a n → Nd tk (F W) l.x l.k v' a n) (hF2 : ∀ W x, x ≠ l.x → (F W).heap[x]? = W.heap[x]?) :
    Rng tk (F (leaveW w zv.length (lstB h l1) (fstB l2 h))) ⟨h, [], zv⟩ (l1 ++ l2) ∧ Nd tk (leaveW w zv.length (lstB h l1) (fstB l2 h)) l.x l.k l.v (lstB h l1) (fstB l2 h) ∧ Nd tk (F (leaveW w zv.length (lstB h l1) (fstB l2 h))) l.x l.k v' (lstB h l1) (fstB l2 h) ∧
      (F (leaveW w zv.length (lstB h l1) (fstB l2 h))).heap[g]? = w.heap[g]? ∧ (F (leaveW w zv.length (lstB h l1) (fstB l2 h))).heap[m]? = w.heap[m]? ∧ (leaveW w zv.length (lstB h l1) (fstB l2 h)).heap[g]? = w.heap[g]? ∧
      ∀ y ∈ (⟨h, [], zv⟩ : Lk) :: (l1 ++ l2), y.x ≠ l.x := by
  have hlm : l ∈ l1 ++ l :: l2 := by simp
  obtain ⟨n1, r1⟩ := Rng.leave (vn := zv.length) A.ring A.apart A.allv
  have hperm : List.Perm (l1 ++ l :: l2) (l1 ++ l2 ++ [l]) := (List.perm_middle (l₁ := l1) (a := l) (l₂ := l2)).trans (List.perm_append_singleton l (l1 ++ l2)).symm
  have hap2 : Apart ((⟨h, [], zv⟩ : Lk) :: (l1 ++ l2 ++ [l])) := ((hperm.cons _).map _).nodup_iff.1 A.apart
  have hne : ∀ y ∈ (⟨h, [], zv⟩ : Lk) :: (l1 ++ l2), y.x ≠ l.x := fun y hy => by
    have : Apart (((⟨h, [], zv⟩ : Lk) :: (l1 ++ l2)) ++ [l]) := hap2
    exact ne_of_apart this hy (List.mem_singleton.2 rfl)
  obtain ⟨ya, hya, ea⟩ := lst_mem h zv l1
  obtain ⟨yn, hyn, en⟩ := fst_mem h zv l2
  have in1 : ya ∈ (⟨h, [], zv⟩ : Lk) :: (l1 ++ l2) := by
    rcases List.mem_cons.1 hya with rfl | hy
    · simp
    · simp [hy]
  have in2 : yn ∈ (⟨h, [], zv⟩ : Lk) :: (l1 ++ l2) := by
    rcases List.mem_cons.1 hyn with rfl | hy
    · simp
    · simp [hy]
  have in3 : ∀ y, y ∈ (⟨h, [], zv⟩ : Lk) :: (l1 ++ l2) → y ∈ (⟨h, [], zv⟩ : Lk) :: (l1 ++ l :: l2) := fun y hy => by
    rcases List.mem_cons.1 hy with rfl | hy
    · simp
    · rcases List.mem_append.1 hy with hy | hy
      · simp [hy]
      · simp [hy]
  have nl : Nd tk (leaveW w zv.length (lstB h l1) (fstB l2 h)) l.x l.k l.v (lstB h l1) (fstB l2 h) := by
    unfold Nd at n1 ⊢
    rw [setCell_other (by rw [en]; exact (hne yn in2).symm), setCell_other (by rw [ea]; exact (hne ya in1).symm)]
    exact n1
  have hg : (leaveW w zv.length (lstB h l1) (fstB l2 h)).heap[g]? = w.heap[g]? := by
    rw [setCell_other (by rw [en]; exact A.g_ne (in3 _ in2)), setCell_other (by rw [ea]; exact A.g_ne (in3 _ in1))]
  have hm : (leaveW w zv.length (lstB h l1) (fstB l2 h)).heap[m]? = w.heap[m]? := by
    rw [setCell_other (by rw [en]; exact A.m_ne (in3 _ in2)), setCell_other (by rw [ea]; exact A.m_ne (in3 _ in1))]
  exact ⟨Seg.frame r1 fun y hy => hF2 _ _ (hne y hy), nl, hF _ _ _ nl, (hF2 _ _ (A.g1.2 l hlm)).trans hg, (hF2 _ _ (A.m_ne (List.mem_cons_of_mem _ hlm))).trans hm, hg, hne⟩
theorem heap_alloc (w : World) (o : Obj) {x : Nat} (h : x < w.heap.size) : (w.alloc o).heap[x]? = w.heap[x]? := by
  show (w.heap.push o)[x]? = _
  simp [Array.getElem?_push, Nat.ne_of_lt h]
theorem heap_alloc_at (w : World) (o : Obj) : (w.alloc o).heap[w.heap.size]? = some o := by
  show (w.heap.push o)[_]? = _
  simp
/-- a new block beside it -/
theorem LruAt.alloc (A : LruAt tk tL zv w g m h ls most) (o : Obj) : LruAt tk tL zv (w.alloc o) g m h ls most := by
  refine A.same (heap_alloc _ _ (heap_lt A.hd)) fun x hx => heap_alloc _ _ ?_
  rcases hx with rfl | rfl | ⟨l, hl, rfl⟩
  · obtain ⟨es, c, h1, _⟩ := A.mp
    exact heap_lt h1
  · exact heap_lt A.first
  · obtain ⟨a, n, h1⟩ := A.node (List.mem_cons_of_mem _ hl)
    exact heap_lt h1
theorem LruAt.lt (A : LruAt tk tL zv w g m h ls most) {x : Nat} (hx : hidB m h ls x) : x < w.heap.size := by
  rcases hx with rfl | rfl | ⟨l, hl, rfl⟩
  · obtain ⟨es, c, h1, _⟩ := A.mp
    exact heap_lt h1
  · exact heap_lt A.first
  · obtain ⟨a, n, h1⟩ := A.node (List.mem_cons_of_mem _ hl)
    exact heap_lt h1
theorem size_alloc (w : World) (o : Obj) : (w.alloc o).heap.size = w.heap.size + 1 := by
  show (w.heap.push o).size = _
  simp
theorem Only.alloc0 {S : Nat → Prop} {o : Obj} (h : Only (w.alloc o) S w') : Only w S w' :=
  ⟨h.os, h.tape, h.output, by have := h.size; rw [size_alloc] at this; omega, fun k hk hn => (h.block k (by rw [size_alloc]; omega) hn).trans (heap_alloc _ _ hk)⟩
/-- a parameter's own block keeps what it has while a link leaves -/
theorem LruAt.box (A : LruAt tk tL zv w g m h (l1 ++ l :: l2) most) (t : List UInt8) (b : Bool) (ty : TypeId) (a1 a2 : List Lk) (e1 : a1 = l1 := by rfl) (e2 : a2 = l2 := by rfl) : (leaveW (w.alloc (.cells #[.string (bs t), .bool b] ty)) zv.length (lstB h l1) (fstB l2 h)).cell? ⟨w.heap.size, 0, none⟩ = some (.string (bs t)) ∧ (leaveW (w.alloc (.cells #[.string (bs t), .bool b] ty)) zv.length (lstB h l1) (fstB l2 h)).cell? ⟨w.heap.size, 1, none⟩ = some (.bool b) := by
  obtain ⟨ya, hya, ea⟩ := lst_mem h zv l1
  obtain ⟨yn, hyn, en⟩ := fst_mem h zv l2
  have in1 : ya ∈ (⟨h, [], zv⟩ : Lk) :: (l1 ++ l :: l2) := by
    rcases List.mem_cons.1 hya with rfl | hy
    · simp
    · simp [hy]
  have in2 : yn ∈ (⟨h, [], zv⟩ : Lk) :: (l1 ++ l :: l2) := by
    rcases List.mem_cons.1 hyn with rfl | hy
    · simp
    · simp [hy]
  obtain ⟨_, _, h1⟩ := A.node in1
  obtain ⟨_, _, h2⟩ := A.node in2
  have h1 := heap_lt h1
  have h2 := heap_lt h2
  have hh : (leaveW (w.alloc (.cells #[.string (bs t), .bool b] ty)) zv.length (lstB h l1) (fstB l2 h)).heap[w.heap.size]? = some (.cells #[.string (bs t), .bool b] ty (0, 0)) := by
    rw [setCell_other (by omega), setCell_other (by omega)]
    exact heap_alloc_at _ _
  exact ⟨cellAt hh (by show 0 < 2; omega), cellAt hh (by show 1 < 2; omega)⟩
/-- a link's cells, of any pointers -/
def lkV (k : List UInt8) (v : List Value) (a n : Value) : Array Value := (Value.string (bs k) :: (v ++ [a, n])).toArray
theorem lkV_size (k : List UInt8) (v : List Value) (a n : Value) : (lkV k v a n).size = v.length + 3 := by simp [lkV]
theorem Only.shrink {S : Nat → Prop} (h : Only w (fun y => S y ∨ w.heap.size ≤ y) w') : Only w S w' :=
  ⟨h.os, h.tape, h.output, h.size, fun k hk hn => h.block k hk fun e => e.elim hn fun e => by omega⟩
theorem Only.trans {S S' : Nat → Prop} (h : Only u S w) (k : Only w S' w') (hs : ∀ x, x < u.heap.size → S' x → S x) : Only u S w' :=
  ⟨k.os.trans h.os, k.tape.trans h.tape, k.output.trans h.output, Nat.le_trans h.size k.size, fun x hx hn => (k.block x (Nat.lt_of_lt_of_le hx h.size) fun e => hn (hs x hx e)).trans (h.block x hx hn)⟩
theorem Only.alloc1 {S : Nat → Prop} (w : World) (o : Obj) : Only w S (w.alloc o) :=
  ⟨rfl, rfl, rfl, by rw [size_alloc]; omega, fun k hk hn => heap_alloc _ _ hk⟩
theorem LruAt.only (A : LruAt tk tL zv w g m h ls most) (h0 : Only w (fun _ => False) w') : LruAt tk tL zv w' g m h ls most :=
  A.same (h0.block _ (heap_lt A.hd) id) fun x hx => h0.block _ (A.lt hx) id
/-- a new key comes -/
theorem LruAt.come (A : LruAt tk tL zv w g m h ls most) {es : Array MapEntry} {c : Nat} (hm : w.heap[m]? = some (.map es c)) (ho : MapOk es.toList ls) (hkn : ∀ y ∈ ls, y.k ≠ k) (hv : v.length = zv.length) {F : World → World}
    (hF : ∀ W, W.heap[w.heap.size]? = some (.cells (lkV k zv (.pointer none) (.pointer none)) tk (0, 0)) → (F W).heap[w.heap.size]? = some (.cells (lkV k v (.pointer none) (.pointer none)) tk (0, 0))) (hF2 : ∀ W x, x ≠ w.heap.size → (F W).heap[x]? = W.heap[x]?) (hF3 : ∀ W S, Only w S W → S w.heap.size → Only w S (F W)) :
    let WB := w.alloc (.cells (lkV k zv (.pointer none) (.pointer none)) tk)
    let W1 := putMap WB m (es.push ⟨.string (bs k), pnt w.heap.size, c⟩) (c + 1)
    WB.heap[g]? = w.heap[g]? ∧ WB.heap[m]? = some (.map es c) ∧ W1.heap[w.heap.size]? = some (.cells (lkV k zv (.pointer none) (.pointer none)) tk (0, 0)) ∧ W1.heap[g]? = w.heap[g]? ∧
      (F W1).heap[w.heap.size]? = some (.cells (lkV k v (.pointer none) (.pointer none)) tk (0, 0)) ∧ Rng tk (F W1) ⟨h, [], zv⟩ ls ∧ (F W1).heap[g]? = w.heap[g]? ∧
      (lastW (F W1) zv.length w.heap.size h (lstB h ls)).heap[m]? = some (.map (es.push ⟨.string (bs k), pnt w.heap.size, c⟩) (c + 1)) ∧
      LruAt tk tL zv (lastW (F W1) zv.length w.heap.size h (lstB h ls)) g m h (ls ++ [⟨w.heap.size, k, v⟩]) most ∧
      Only w (fun x => x = g ∨ hidB m h ls x) (lastW (F W1) zv.length w.heap.size h (lstB h ls)) ∧
      h ≠ w.heap.size ∧ lstB h ls ≠ w.heap.size ∧ g ≠ w.heap.size ∧ m ≠ w.heap.size ∧ MapOk (es.push ⟨.string (bs k), pnt w.heap.size, c⟩).toList (ls ++ [⟨w.heap.size, k, v⟩]) := by
  intro WB W1
  obtain ⟨ya, hya, ea⟩ := lst_mem h zv ls
  have hlt : ∀ y ∈ (⟨h, [], zv⟩ : Lk) :: ls, y.x < w.heap.size := fun y hy => by
    obtain ⟨a, n, h1⟩ := A.node hy
    exact heap_lt h1
  have lg : g < w.heap.size := heap_lt A.hd
  have lm : m < w.heap.size := heap_lt hm
  have lh : h < w.heap.size := heap_lt A.first
  have ll : lstB h ls < w.heap.size := by rw [ea]; exact hlt ya hya
  have k0 : ∀ y, y < w.heap.size → WB.heap[y]? = w.heap[y]? := fun y hy => heap_alloc _ _ hy
  have k1 : ∀ y, y < w.heap.size → y ≠ m → W1.heap[y]? = w.heap[y]? := fun y hy hn => (putMap_other hn).trans (k0 y hy)
  have k2 : ∀ y, y < w.heap.size → y ≠ m → (F W1).heap[y]? = w.heap[y]? := fun y hy hn => (hF2 _ _ (by omega)).trans (k1 y hy hn)
  have x1 : W1.heap[w.heap.size]? = some (.cells (lkV k zv (.pointer none) (.pointer none)) tk (0, 0)) := (putMap_other (by omega)).trans (heap_alloc_at _ _)
  have x2 := hF _ x1
  have m1 : W1.heap[m]? = some (.map (es.push ⟨.string (bs k), pnt w.heap.size, c⟩) (c + 1)) := putMap_heap (by rw [size_alloc]; omega)
  have m2 : (F W1).heap[m]? = some (.map (es.push ⟨.string (bs k), pnt w.heap.size, c⟩) (c + 1)) := (hF2 _ _ (by omega)).trans m1
  have hN : Nd tk (((F W1).setCell ⟨w.heap.size, zv.length + 1, none⟩ (pnt (lstB h ls))).setCell ⟨w.heap.size, zv.length + 2, none⟩ (pnt h)) w.heap.size k v (lstB h ls) h := by
    unfold Nd
    rw [setCell_heap (setCell_heap x2 _)]
    congr 2
    rw [← hv]
    apply Array.ext'
    simp [lkV, lkC]
  have gm : g ≠ m := A.gm
  have o1 : Only w (fun x => (x = g ∨ hidB m h ls x) ∨ w.heap.size ≤ x) (lastW (F W1) zv.length w.heap.size h (lstB h ls)) := by
    have z0 : Only w (fun x => (x = g ∨ hidB m h ls x) ∨ w.heap.size ≤ x) W1 := (Only.alloc1 w _).putMap (.inl (.inr (.inl rfl))) _ _
    have z1 := hF3 _ _ z0 (.inr (Nat.le_refl _))
    refine (((z1.setCell (.inr (Nat.le_refl _)) _).setCell (.inr (Nat.le_refl _)) _).setCell (.inl (.inr ?_)) _).setCell (.inl (.inr (.inr (.inl rfl)))) _
    rw [ea]
    rcases List.mem_cons.1 hya with rfl | hy
    · exact .inr (.inl rfl)
    · exact .inr (.inr ⟨ya, hy, rfl⟩)
  refine ⟨k0 g lg, (k0 m lm).trans hm, x1, k1 g lg gm, x2, Seg.frame A.ring fun y hy => k2 _ (hlt y hy) (A.m_ne hy).symm, k2 g lg gm, ?_, A.added (W := F W1) (fun y hy => by have := hlt y hy; omega) (by omega) (by omega) hkn hv ho k2 m2 hN, o1.shrink, by omega, by omega, by omega, by omega, ho.push ⟨w.heap.size, k, v⟩ c⟩
  rw [setCell_other (A.m_ne (y := ⟨h, [], zv⟩) List.mem_cons_self), setCell_other (by rw [ea]; exact A.m_ne hya), setCell_other (by omega), setCell_other (by omega)]
  exact m2
end
end Go.Proofs.Ytdicpbecdhaphaa.Av
