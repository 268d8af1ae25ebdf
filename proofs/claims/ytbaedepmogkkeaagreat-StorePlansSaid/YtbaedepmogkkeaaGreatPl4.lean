/- What the claim stands on, Pl4: contracts of functions and plain facts. No conditions. -/
import Derived.WalkKit
import Derived.Lib.Hide
import Derived.Deep.Draws
import Derived.WalkSpells
import Derived.Deep.RegionWith
import Derived.Deep.RegionHeld3
import Derived.Deep.QuietTactic
import Derived.BigQuiet
import Derived.Deep.LoopGhost
import Derived.Deep.DeepCutAuto
import Derived.Deep.WholeRow
import Derived.Deep.MidRow
import Derived.Deep.DeepFit
import Derived.Deep.DeepMust
import Derived.WalkLawsBesides
namespace Go.Proofs.YtbaedepmogkkeaaGreat
set_option linter.unusedSimpArgs false
set_option linter.unusedVariables false
open Go.RowKit
def Blk (w : World) (g : Nat) (t : TypeId) (cs : Array Value) : Prop := w.heap[g]? = some (.cells cs t (0, 0))
theorem Blk.at_ {w : World} {g : Nat} {t : TypeId} {cs : Array Value} (h : Blk w g t cs) : w.heap[g]? = some (.cells cs t (0, 0)) := h
theorem Blk.lt {w : World} {g : Nat} {t : TypeId} {cs : Array Value} (h : Blk w g t cs) : g < w.heap.size := by
 apply Classical.byContradiction
 intro hn
 have h' := h.at_
 rw [Array.getElem?_eq_none (by omega)] at h'
 cases h'
theorem Blk.cell {w : World} {g : Nat} {t : TypeId} {cs : Array Value} (h : Blk w g t cs) (i : Nat) : w.cell? ⟨g, i, none⟩ = cs[i]? :=
 cell_of_row w g i cs t (0, 0) h
theorem Blk.frozen {w : World} {g : Nat} {t : TypeId} {cs : Array Value} (h : Blk w g t cs) (i : Nat) : w.frozen? ⟨g, i, none⟩ = false :=
 frozen_of_row w g i cs t h
theorem Blk.new (w : World) (t : TypeId) (cs : Array Value) : Blk (w.alloc (.cells cs t)) w.heap.size t cs := heap_alloc_new w _
theorem Blk.new2 (w : World) (A : Obj) (t : TypeId) (cs : Array Value) : Blk ((w.alloc A).alloc (.cells cs t)) (w.heap.size + 1) t cs := heap_alloc2_new w A _
theorem Blk.drew {w : World} {g : Nat} {t : TypeId} {cs : Array Value} (h : Blk w g t cs) : Blk w.drew g t cs := h
theorem Blk.alloc {w : World} {g : Nat} {t : TypeId} {cs : Array Value} (h : Blk w g t cs) (o : Obj) : Blk (w.alloc o) g t cs :=
 (Below.heap_alloc w o g h.lt).trans h
theorem Blk.set {w : World} {g : Nat} {t : TypeId} {cs : Array Value} (h : Blk w g t cs) (i : Nat) (v : Value) : Blk (w.setCell ⟨g, i, none⟩ v) g t (cs.setIfInBounds i v) := by
 have h' := h.at_
 unfold Blk
 simp only [World.setCell, Array.getElem?_modify, h']
 simp
theorem Blk.far {w : World} {g : Nat} {t : TypeId} {cs : Array Value} (h : Blk w g t cs) {p : Addr} (hp : g ≠ p.block) (v : Value) : Blk (w.setCell p v) g t cs :=
 (heap_setCell_other w p g v hp).trans h
theorem Blk.below {w w' : World} {g B : Nat} {t : TypeId} {cs : Array Value} (h : Blk w g t cs) (hb : Below B w w') (hg : g < B) : Blk w' g t cs :=
 (hb.block g hg).trans h
theorem keep_cell {W w : World} (hb : Below W.heap.size W w) {p : Addr} {v : Value} (hc : W.cell? p = some v) : w.cell? p = some v := (hb.cell (block_lt_of_cell hc)).trans hc
theorem two_boxes {w w1 : World} {A B : Obj} (hb : Below ((w.alloc A).alloc B).heap.size ((w.alloc A).alloc B) w1) :
  w1.heap[w.heap.size]? = some A ∧ w1.heap[w.heap.size + 1]? = some B ∧ Below w.heap.size w w1 ∧ w.heap.size + 1 < w1.heap.size := by
 have hs : ((w.alloc A).alloc B).heap.size = w.heap.size + 2 := by simp
 rw [hs] at hb
 refine ⟨(hb.block _ (by omega)).trans (heap_alloc2_old w A B), (hb.block _ (by omega)).trans (heap_alloc2_new w A B), (((Below.refl _ _).alloc (Nat.le_refl _) _).alloc (by simp) _).trans (hb.mono (by omega)), ?_⟩
 have := hb.size
 rw [hs] at this; omega
theorem one_box {w w1 : World} {A : Obj} (hb : Below (w.alloc A).heap.size (w.alloc A) w1) :
  w1.heap[w.heap.size]? = some A ∧ Below w.heap.size w w1 ∧ w.heap.size < w1.heap.size := by
 have hs : (w.alloc A).heap.size = w.heap.size + 1 := by simp
 rw [hs] at hb
 refine ⟨(hb.block _ (by omega)).trans (heap_alloc_new w A), ((Below.refl _ _).alloc (Nat.le_refl _) _).trans (hb.mono (by omega)), ?_⟩
 have := hb.size
 rw [hs] at this; omega
theorem Blk.c3 {w : World} {g : Nat} {t : TypeId} {a b c : Value} (h : Blk w g t #[a, b, c]) :
  (w.cell? ⟨g, 0, none⟩ = some a ∧ w.cell? ⟨g, 1, none⟩ = some b ∧ w.cell? ⟨g, 2, none⟩ = some c) ∧ w.frozen? ⟨g, 0, none⟩ = false ∧ w.frozen? ⟨g, 1, none⟩ = false ∧ w.frozen? ⟨g, 2, none⟩ = false :=
 ⟨⟨h.cell 0, h.cell 1, h.cell 2⟩, h.frozen 0, h.frozen 1, h.frozen 2⟩
theorem results_tmp_row {P : Program} {fn : Func} {q p : Tmp} {ty : TypeId} (h : fn.results = #[.tmp q, .cell p ty]) (tmps : Array Value) (w : World) (g : Nat) (t : TypeId) (cs : Array Value) (d : TypeDesc)
  (hp : tmps.getD p undef = .pointer (some ⟨g, 0, none⟩)) (hg : Blk w g t cs) (hu : P.underlying ty = some d) (hd : (match d with | .struct _ | .array _ _ => true | _ => false) = true) (hi : (P.info? ty).map (·.size) = some cs.size) :
  (results fn tmps).run P w = .ok (.tuple #[tmps.getD q undef, .agg cs]) w := by
 have hp' : tmps[p]?.getD undef = .pointer (some ⟨g, 0, none⟩) := by simpa using hp
 simp [results, h, hp', asAddr, run_loadVar_row w g t ty cs (0, 0) d hg.at_ hu hd hi]
/-! ### texts as lists of bytes -/
def bs (l : List UInt8) : ByteArray := ⟨l.toArray⟩
theorem bs_of (s : ByteArray) : s = bs s.data.toList := by
 cases s; simp [bs]
@[simp, go_sem] theorem bs_size (l : List UInt8) : (bs l).size = l.length := by simp [bs, ByteArray.size]
@[simp, go_sem] theorem bs_toList (l : List UInt8) : (bs l).toList = l := ByteArray.toList_mk l
@[simp, go_sem] theorem bs_data (l : List UInt8) : (bs l).data = l.toArray := rfl
@[go_sem] theorem bs_append (a b : List UInt8) : bs a ++ bs b = bs (a ++ b) := by
 apply ByteArray.ext
 simp [bs, ByteArray.data_append]
theorem bs_extract (l : List UInt8) (i j : Nat) : (bs l).extract i j = bs ((l.take j).drop i) := by
 apply ByteArray.ext
 apply Array.toList_inj.1
 simp [bs, ByteArray.data_extract, List.extract_eq_take_drop, List.drop_take]
@[go_sem] theorem str_mk (l : List UInt8) : Value.string ⟨l.toArray⟩ = Value.string (bs l) := rfl
def byteAt (l : List UInt8) (i : Nat) : UInt8 := l[i]?.getD 0
theorem byteAt_lt {l : List UInt8} {i : Nat} (h : i < l.length) : byteAt l i = l[i] := by
 unfold byteAt; rw [List.getElem?_eq_getElem h]; rfl
theorem take_snoc (l : List UInt8) (k : Nat) (h : k < l.length) : l.take (k + 1) = l.take k ++ [byteAt l k] := by
 rw [List.take_succ_eq_append_getElem h, byteAt_lt h]
section
variable {P : Program} (w : World)
@[go_sem high] theorem run_index_bs (t : TypeId) (l : List UInt8) (k : IntKind) (i : Int) (h : P.underlying t = some .string) :
  (Instr.index t (.string (bs l)) (.int k i)).run P w =
   if 0 ≤ i ∧ i < l.length then .ok (.int .u8 (byteAt l i.toNat).toNat) w else (boundsPanic k i l.length .index).run P w := by
 rw [run_index_string w t (bs l) k i h]
 by_cases hi : 0 ≤ i ∧ i < l.length
 ·have hi' : 0 ≤ i ∧ i < (bs l).size := by simpa using hi
  have hl : i.toNat < l.length := by omega
  rw [dif_pos hi', if_pos hi]
  have e : (bs l)[i.toNat]'(by simpa using hl) = l[i.toNat]'hl := rfl
  rw [e, byteAt_lt hl]
 ·have hi' : ¬ (0 ≤ i ∧ i < (bs l).size) := by simpa using hi
  rw [dif_neg hi', if_neg hi]
  simp
@[go_sem high] theorem run_slice_bs_from (t : TypeId) (l : List UInt8) (k : IntKind) (i : Int) (h : P.underlying t = some .string) :
  (Instr.slice t (.string (bs l)) (some (.int k i)) none none).run P w =
   if 0 ≤ i ∧ i ≤ (l.length : Int) then .ok (.string (bs (l.drop i.toNat))) w else ((boundsPanic k i l.length .sliceB : Sem Nat).run P w).andThen fun a w' => .ok (.string ((bs l).extract a l.length)) w' := by
 rw [run_slice_string_from_if w t (bs l) k i h]
 simp only [bs_size, bs_extract, List.take_length]
@[go_sem high] theorem run_slice_bs_to (t : TypeId) (l : List UInt8) (k : IntKind) (j : Int) (h : P.underlying t = some .string) :
  (Instr.slice t (.string (bs l)) none (some (.int k j)) none).run P w =
   if 0 ≤ j ∧ j ≤ (l.length : Int) then .ok (.string (bs (l.take j.toNat))) w else ((boundsPanic k j l.length .sliceAlen : Sem Nat).run P w).andThen fun a w' => .ok (.string ((bs l).extract 0 a)) w' := by
 rw [run_slice_string_to_if w t (bs l) k j h]
 simp only [bs_size, bs_extract, List.drop_zero]
@[go_sem high] theorem run_slice_bs_all (t : TypeId) (l : List UInt8) (h : P.underlying t = some .string) :
  (Instr.slice t (.string (bs l)) none none none).run P w = .ok (.string (bs l)) w := by
 rw [run_slice_string_all w t (bs l) h]
 simp only [bs_size, bs_extract, List.take_length, List.drop_zero]
@[go_sem high] theorem run_slice_bs_if (t : TypeId) (l : List UInt8) (k k' : IntKind) (i j : Int) (h : P.underlying t = some .string) :
  (Instr.slice t (.string (bs l)) (some (.int k i)) (some (.int k' j)) none).run P w =
   if 0 ≤ j ∧ j ≤ (l.length : Int) then
    (if 0 ≤ i ∧ i ≤ j then .ok (.string (bs ((l.take j.toNat).drop i.toNat))) w
     else ((boundsPanic k i j.toNat .sliceB : Sem Nat).run P w).andThen fun a w' => .ok (.string ((bs l).extract a j.toNat)) w')
   else ((boundsPanic k' j l.length .sliceAlen : Sem Nat).run P w).andThen fun b w' =>
    ((Instr.sliceBound (.int k i) b .sliceB).run P w').andThen fun a w'' => .ok (.string ((bs l).extract a b)) w'' := by
 rw [run_slice_string_if w t (bs l) k k' i j h]
 simp only [bs_size, bs_extract]
theorem run_convert_bs (src dst e : TypeId) (a : Addr) (cap : Nat) (l : List UInt8) (hs : P.underlying src = some (.slice e)) (he : P.underlying e = some (.int .u8)) (hd : P.underlying dst = some .string)
  (hc : ∀ j (hj : j < l.length), w.cell? (a.add j) = some (.int .u8 (l[j].toNat : Int))) :
  (convert src dst (.slice (some a) l.length cap)).run P w = .ok (.string (bs l)) w :=
 run_convert_bytes_back w src dst e a cap l hs he hd hc
end
def plainDesc : TypeDesc → Bool
 | .struct _ => false
 | .array _ _ => false
 | _ => true
theorem addr_add (b o j : Nat) : (⟨b, o, none⟩ : Addr).add j = ⟨b, o + j, none⟩ := by unfold Addr.add; split <;> simp_all
theorem val_of {k : IntKind} {a b : Int} (h : a = b) : Value.int k a = Value.int k b := by rw [h]
theorem ret_of {k : IntKind} {a b : Int} (h : a = b) : Ending.returned (.int k a) = .returned (.int k b) := by rw [h]
end Go.Proofs.YtbaedepmogkkeaaGreat
namespace Go.Proofs.YtbaedepmogkkeaaGreat.Quill
set_option linter.unusedSimpArgs false
set_option linter.unusedVariables false
def byteOf (size n i : Nat) : UInt8 := UInt8.ofNat (n / 2 ^ (8 * (size - 1 - i)))
def numB (size n : Nat) : List UInt8 := (List.range size).map (byteOf size n)
def tell (l : List UInt8) : Nat := l.foldl (fun a b => a * 256 + b.toNat) 0
theorem numB_length (size n : Nat) : (numB size n).length = size := by simp [numB]
theorem range_map_snoc {α : Type} (f : Nat → α) (k : Nat) : (List.range (k + 1)).map f = (List.range k).map f ++ [f k] := by
 rw [List.range_succ, List.map_append]; rfl
theorem tell_nil : tell [] = 0 := rfl
theorem tell_snoc (l : List UInt8) (b : UInt8) : tell (l ++ [b]) = tell l * 256 + b.toNat := by simp [tell]
theorem tell_from (l : List UInt8) : ∀ a : Nat, l.foldl (fun a b => a * 256 + b.toNat) a = a * 256 ^ l.length + tell l := by
 induction l with
 | nil => intro a; simp [tell]
 | cons b l ih =>
  intro a
  have h0 : tell (b :: l) = (0 * 256 + b.toNat) * 256 ^ l.length + tell l := by
   rw [tell, List.foldl_cons, ih]
  rw [List.foldl_cons, ih, h0, List.length_cons, Nat.pow_succ, Nat.zero_mul, Nat.zero_add, Nat.add_mul, Nat.mul_assoc, Nat.mul_comm 256]
  omega
theorem tell_cons (b : UInt8) (l : List UInt8) : tell (b :: l) = b.toNat * 256 ^ l.length + tell l := by
 rw [tell, List.foldl_cons, tell_from, Nat.zero_mul, Nat.zero_add]
theorem tell_lt (l : List UInt8) : tell l < 256 ^ l.length := by
 induction l with
 | nil => simp [tell]
 | cons b l ih =>
  have := b.toNat_lt
  rw [tell_cons, List.length_cons, Nat.pow_succ]
  have h : b.toNat * 256 ^ l.length ≤ 255 * 256 ^ l.length := Nat.mul_le_mul_right _ (by omega)
  omega
theorem byteOf_toNat (size n i : Nat) : (byteOf size n i).toNat = n / 2 ^ (8 * (size - 1 - i)) % 256 := by
 rw [byteOf, UInt8.toNat_ofNat']
theorem mod_step (m p : Nat) : m / 256 % p * 256 + m % 256 = m % (256 * p) := by
 rw [Nat.mod_mul, Nat.mul_comm]; omega
theorem tell_numB_pre (size n : Nat) : ∀ k, k ≤ size → tell ((List.range k).map (byteOf size n)) = n / 2 ^ (8 * (size - k)) % 256 ^ k := by
 intro k
 induction k with
 | zero => intro _; simp [tell, Nat.mod_one]
 | succ k ih =>
  intro hk
  rw [range_map_snoc, tell_snoc, ih (by omega), byteOf_toNat]
  have e1 : size - 1 - k = size - (k + 1) := by omega
  have e2 : 8 * (size - k) = 8 * (size - (k + 1)) + 8 := by omega
  rw [e1, e2, Nat.pow_add, ← Nat.div_div_eq_div_mul, Nat.pow_succ 256 k]
  generalize n / 2 ^ (8 * (size - (k + 1))) = m
  rw [show (2 : Nat) ^ 8 = 256 from rfl, mod_step, Nat.mul_comm]
theorem tell_numB (size n : Nat) : tell (numB size n) = n % 256 ^ size := by
 rw [numB, tell_numB_pre size n size (Nat.le_refl _), Nat.sub_self, Nat.mul_zero, Nat.pow_zero, Nat.div_one]
theorem tell_inj : ∀ {a b : List UInt8}, a.length = b.length → tell a = tell b → a = b
 | [], [], _, _ => rfl
 | [], _ :: _, h, _ => by simp at h
 | _ :: _, [], h, _ => by simp at h
 | x :: a, y :: b, h, e => by
  have hl : a.length = b.length := by simpa using h
  rw [tell_cons, tell_cons, hl] at e
  have ha := tell_lt a
  have hb := tell_lt b
  rw [hl] at ha
  have hp : 0 < 256 ^ b.length := Nat.pow_pos (by omega)
  have e1 : x.toNat = y.toNat := by
   have h1 : (x.toNat * 256 ^ b.length + tell a) / 256 ^ b.length = (y.toNat * 256 ^ b.length + tell b) / 256 ^ b.length := by rw [e]
   rw [Nat.mul_comm x.toNat, Nat.mul_comm y.toNat, Nat.mul_add_div hp, Nat.mul_add_div hp, Nat.div_eq_of_lt ha, Nat.div_eq_of_lt hb] at h1
   omega
  have e2 : tell a = tell b := by rw [e1] at e; omega
  rw [UInt8.toNat_inj.1 e1, tell_inj hl e2]
theorem numB_tell (l : List UInt8) : numB l.length (tell l) = l := by
 apply tell_inj
 ·rw [numB_length]
 ·rw [tell_numB, Nat.mod_eq_of_lt (tell_lt l)]
theorem cast_byte (x t : Nat) : (x : Int) / 2 ^ t % 256 = ((x / 2 ^ t % 256 : Nat) : Int) := by
 rw [Int.natCast_emod, Int.natCast_ediv, Int.natCast_pow]; rfl
/-! ### rows -/
def rowB (s : List UInt8) : List UInt8 := numB 2 s.length ++ s
theorem rowB_length (s : List UInt8) : (rowB s).length = 2 + s.length := by rw [rowB, List.length_append, numB_length]
/-! ### scanning -/
structure Sc where
 text : List UInt8
 pos : Int
 bad : Int
def Sc.stands (s : Sc) : Bool := decide (0 ≤ s.pos ∧ s.pos ≤ (s.text.length : Int))
def Sc.fails (s : Sc) (e : Int) : Sc := ⟨s.text, s.pos, e⟩
def Sc.num (s : Sc) (size : Int) : Nat × Sc :=
 if s.bad ≠ 0 then (0, s)
 else if s.stands = false ∨ size < 1 ∨ 8 < size then (0, s.fails 2)
 else if (s.text.length : Int) - s.pos < size then (0, s.fails 3)
 else (tell ((s.text.drop s.pos.toNat).take size.toNat), ⟨s.text, s.pos + size, 0⟩)
def Sc.row (s : Sc) : List UInt8 × Sc :=
 if (s.num 2).2.bad ≠ 0 then ([], (s.num 2).2)
 else if (s.text.length : Int) - (s.num 2).2.pos < ((s.num 2).1 : Int) then ([], s.fails 3)
 else ((s.text.drop (s.num 2).2.pos.toNat).take (s.num 2).1, ⟨s.text, (s.num 2).2.pos + ((s.num 2).1 : Int), 0⟩)
def Sc.fin (s : Sc) : Int := if s.bad ≠ 0 then s.bad else if s.stands = false then 2 else if s.pos < (s.text.length : Int) then 4 else 0
theorem Sc.num_text (s : Sc) (size : Int) : (s.num size).2.text = s.text := by
 unfold Sc.num Sc.fails
 split
 ·rfl
 ·split
  ·rfl
  ·split <;> rfl
theorem Sc.row_text (s : Sc) : s.row.2.text = s.text := by
 unfold Sc.row Sc.fails
 split
 ·exact s.num_text 2
 ·split <;> rfl
end Go.Proofs.YtbaedepmogkkeaaGreat.Quill
