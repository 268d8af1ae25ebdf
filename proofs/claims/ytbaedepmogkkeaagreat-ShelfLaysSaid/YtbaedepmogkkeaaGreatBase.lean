/- Words for memory that the walks of this seat share: a block that is known whole, and how it is kept. No program's law is stated here. No conditions. -/
import Derived.WalkKit
import Derived.Lib.Hide
import Derived.Deep.Draws
import Derived.WalkSpells
import Derived.Deep.RegionWith
import Derived.Deep.RegionHeld3
import Derived.Deep.QuietTactic
import Derived.BigQuiet
import Derived.Deep.LoopGhost
import Derived.Deep.DeepCutAuto
import Derived.Deep.WholeRow
import Derived.Deep.MidRow
import Derived.Deep.DeepFit
import Derived.Deep.DeepMust
import Derived.WalkLawsBesides
namespace Go.Proofs.YtbaedepmogkkeaaGreat
set_option linter.unusedSimpArgs false
set_option linter.unusedVariables false
open Go.RowKit

/-- Block g is a row of just the cells cs, of element type t, none of them frozen. -/
def Blk (w : World) (g : Nat) (t : TypeId) (cs : Array Value) : Prop := w.heap[g]? = some (.cells cs t (0, 0))

theorem Blk.at_ {w : World} {g : Nat} {t : TypeId} {cs : Array Value} (h : Blk w g t cs) : w.heap[g]? = some (.cells cs t (0, 0)) := h
theorem Blk.lt {w : World} {g : Nat} {t : TypeId} {cs : Array Value} (h : Blk w g t cs) : g < w.heap.size := by
  apply Classical.byContradiction
  intro hn
  have h' := h.at_
  rw [Array.getElem?_eq_none (by omega)] at h'
  cases h'
theorem Blk.cell {w : World} {g : Nat} {t : TypeId} {cs : Array Value} (h : Blk w g t cs) (i : Nat) : w.cell? ⟨g, i, none⟩ = cs[i]? :=
  cell_of_row w g i cs t (0, 0) h
theorem Blk.cell_some {w : World} {g : Nat} {t : TypeId} {cs : Array Value} (h : Blk w g t cs) {i : Nat} (hi : i < cs.size) : w.cell? ⟨g, i, none⟩ = some cs[i] := by
  rw [h.cell, Array.getElem?_eq_getElem hi]
theorem Blk.frozen {w : World} {g : Nat} {t : TypeId} {cs : Array Value} (h : Blk w g t cs) (i : Nat) : w.frozen? ⟨g, i, none⟩ = false :=
  frozen_of_row w g i cs t h
theorem Blk.new (w : World) (t : TypeId) (cs : Array Value) : Blk (w.alloc (.cells cs t)) w.heap.size t cs := heap_alloc_new w _
theorem Blk.new2 (w : World) (A : Obj) (t : TypeId) (cs : Array Value) : Blk ((w.alloc A).alloc (.cells cs t)) (w.heap.size + 1) t cs := heap_alloc2_new w A _
theorem Blk.drew {w : World} {g : Nat} {t : TypeId} {cs : Array Value} (h : Blk w g t cs) : Blk w.drew g t cs := h
theorem Blk.drewN {w : World} {g : Nat} {t : TypeId} {cs : Array Value} (h : Blk w g t cs) (n : Nat) : Blk (w.drewN n) g t cs := h
theorem Blk.alloc {w : World} {g : Nat} {t : TypeId} {cs : Array Value} (h : Blk w g t cs) (o : Obj) : Blk (w.alloc o) g t cs :=
  (Below.heap_alloc w o g h.lt).trans h
theorem Blk.set {w : World} {g : Nat} {t : TypeId} {cs : Array Value} (h : Blk w g t cs) (i : Nat) (v : Value) : Blk (w.setCell ⟨g, i, none⟩ v) g t (cs.setIfInBounds i v) := by
  have h' := h.at_
  unfold Blk
  simp only [World.setCell, Array.getElem?_modify, h']
  simp
theorem Blk.far {w : World} {g : Nat} {t : TypeId} {cs : Array Value} (h : Blk w g t cs) {p : Addr} (hp : g ≠ p.block) (v : Value) : Blk (w.setCell p v) g t cs :=
  (heap_setCell_other w p g v hp).trans h
theorem Blk.below {w w' : World} {g B : Nat} {t : TypeId} {cs : Array Value} (h : Blk w g t cs) (hb : Below B w w') (hg : g < B) : Blk w' g t cs :=
  (hb.block g hg).trans h
theorem Blk.grown {w w' : World} {g : Nat} {row : Option Nat} {t : TypeId} {cs : Array Value} (h : Blk w g t cs) (hb : w.grownBy w' row) (hg : some g ≠ row) : Blk w' g t cs :=
  (hb.block g h.lt hg).trans h
theorem Blk.setRow {w : World} {g : Nat} {t : TypeId} {cs : Array Value} (h : Blk w g t cs) (cs' : Array Value) : Blk (w.setRow g cs') g t cs' :=
  setRow_heap w g cs cs' t (0, 0) h
theorem heap_setRow_other (w : World) (g k : Nat) (cs : Array Value) (h : k ≠ g) : (w.setRow g cs).heap[k]? = w.heap[k]? := by
  simp only [World.setRow, Array.getElem?_modify]
  rw [if_neg (by omega)]
theorem Blk.farRow {w : World} {g k : Nat} {t : TypeId} {cs : Array Value} (h : Blk w g t cs) (hk : g ≠ k) (cs' : Array Value) : Blk (w.setRow k cs') g t cs :=
  (heap_setRow_other w k g cs' hk).trans h
theorem below_setRow {B : Nat} {a w : World} (h : Below B a w) {g : Nat} (hg : B ≤ g) (cs : Array Value) : Below B a (w.setRow g cs) :=
  h.trans ⟨rfl, rfl, rfl, by simp, fun k hk => heap_setRow_other _ _ _ _ (by omega)⟩
theorem below_chain {a b c : World} (h : Below a.heap.size a b) (k : Below b.heap.size b c) : Below a.heap.size a c := h.trans (k.mono h.size)
theorem keep_cell {W w : World} (hb : Below W.heap.size W w) {p : Addr} {v : Value} (hc : W.cell? p = some v) : w.cell? p = some v := (hb.cell (block_lt_of_cell hc)).trans hc
theorem below_drewN {B : Nat} {a w : World} (h : Below B a w) (n : Nat) : Below B a (w.drewN n) := ⟨h.os, h.tape, h.output, h.size, h.block⟩

/-- Two new blocks, behind a call that writes nothing of them. -/
theorem two_boxes {w w1 : World} {A B : Obj} (hb : Below ((w.alloc A).alloc B).heap.size ((w.alloc A).alloc B) w1) :
    w1.heap[w.heap.size]? = some A ∧ w1.heap[w.heap.size + 1]? = some B ∧ Below w.heap.size w w1 ∧ w.heap.size + 1 < w1.heap.size := by
  have hs : ((w.alloc A).alloc B).heap.size = w.heap.size + 2 := by simp
  rw [hs] at hb
  refine ⟨(hb.block _ (by omega)).trans (heap_alloc2_old w A B), (hb.block _ (by omega)).trans (heap_alloc2_new w A B), (((Below.refl _ _).alloc (Nat.le_refl _) _).alloc (by simp) _).trans (hb.mono (by omega)), ?_⟩
  have := hb.size
  rw [hs] at this; omega
theorem one_box {w w1 : World} {A : Obj} (hb : Below (w.alloc A).heap.size (w.alloc A) w1) :
    w1.heap[w.heap.size]? = some A ∧ Below w.heap.size w w1 ∧ w.heap.size < w1.heap.size := by
  have hs : (w.alloc A).heap.size = w.heap.size + 1 := by simp
  rw [hs] at hb
  refine ⟨(hb.block _ (by omega)).trans (heap_alloc_new w A), ((Below.refl _ _).alloc (Nat.le_refl _) _).trans (hb.mono (by omega)), ?_⟩
  have := hb.size
  rw [hs] at this; omega
theorem Blk.c3 {w : World} {g : Nat} {t : TypeId} {a b c : Value} (h : Blk w g t #[a, b, c]) :
    (w.cell? ⟨g, 0, none⟩ = some a ∧ w.cell? ⟨g, 1, none⟩ = some b ∧ w.cell? ⟨g, 2, none⟩ = some c) ∧ w.frozen? ⟨g, 0, none⟩ = false ∧ w.frozen? ⟨g, 1, none⟩ = false ∧ w.frozen? ⟨g, 2, none⟩ = false :=
  ⟨⟨h.cell 0, h.cell 1, h.cell 2⟩, h.frozen 0, h.frozen 1, h.frozen 2⟩
theorem Blk.c2 {w : World} {g : Nat} {t : TypeId} {a b : Value} (h : Blk w g t #[a, b]) :
    (w.cell? ⟨g, 0, none⟩ = some a ∧ w.cell? ⟨g, 1, none⟩ = some b) ∧ w.frozen? ⟨g, 0, none⟩ = false ∧ w.frozen? ⟨g, 1, none⟩ = false :=
  ⟨⟨h.cell 0, h.cell 1⟩, h.frozen 0, h.frozen 1⟩
/-- A mixed result: a slot, and a whole block. -/
theorem results_tmp_row {P : Program} {fn : Func} {q p : Tmp} {ty : TypeId} (h : fn.results = #[.tmp q, .cell p ty]) (tmps : Array Value) (w : World) (g : Nat) (t : TypeId) (cs : Array Value) (d : TypeDesc)
    (hp : tmps.getD p undef = .pointer (some ⟨g, 0, none⟩)) (hg : Blk w g t cs) (hu : P.underlying ty = some d) (hd : (match d with | .struct _ | .array _ _ => true | _ => false) = true) (hi : (P.info? ty).map (·.size) = some cs.size) :
    (results fn tmps).run P w = .ok (.tuple #[tmps.getD q undef, .agg cs]) w := by
  have hp' : tmps[p]?.getD undef = .pointer (some ⟨g, 0, none⟩) := by simpa using hp
  simp [results, h, hp', asAddr, run_loadVar_row w g t ty cs (0, 0) d hg.at_ hu hd hi]

/-! ### texts as lists of bytes -/
/-- The text of a list of bytes. -/
def bs (l : List UInt8) : ByteArray := ⟨l.toArray⟩
theorem bs_of (s : ByteArray) : s = bs s.data.toList := by
  cases s; simp [bs]
@[simp, go_sem] theorem bs_size (l : List UInt8) : (bs l).size = l.length := by simp [bs, ByteArray.size]
@[simp, go_sem] theorem bs_toList (l : List UInt8) : (bs l).toList = l := ByteArray.toList_mk l
@[simp, go_sem] theorem bs_data (l : List UInt8) : (bs l).data = l.toArray := rfl
@[go_sem] theorem bs_append (a b : List UInt8) : bs a ++ bs b = bs (a ++ b) := by
  apply ByteArray.ext
  simp [bs, ByteArray.data_append]
theorem bs_extract (l : List UInt8) (i j : Nat) : (bs l).extract i j = bs ((l.take j).drop i) := by
  apply ByteArray.ext
  apply Array.toList_inj.1
  simp [bs, ByteArray.data_extract, List.extract_eq_take_drop, List.drop_take]
theorem bs_inj {a b : List UInt8} (h : bs a = bs b) : a = b := by
  have := congrArg ByteArray.toList h
  simpa using this
@[go_sem] theorem str_mk (l : List UInt8) : Value.string ⟨l.toArray⟩ = Value.string (bs l) := rfl
theorem str_of {a b : List UInt8} (h : a = b) : Value.string (bs a) = .string (bs b) := by rw [h]

/-- The byte at a place; 0 beyond the end. -/
def byteAt (l : List UInt8) (i : Nat) : UInt8 := l[i]?.getD 0
theorem byteAt_lt {l : List UInt8} {i : Nat} (h : i < l.length) : byteAt l i = l[i] := by
  unfold byteAt; rw [List.getElem?_eq_getElem h]; rfl
theorem take_snoc (l : List UInt8) (k : Nat) (h : k < l.length) : l.take (k + 1) = l.take k ++ [byteAt l k] := by
  rw [List.take_succ_eq_append_getElem h, byteAt_lt h]
section
variable {P : Program} (w : World)
@[go_sem high] theorem run_index_bs (t : TypeId) (l : List UInt8) (k : IntKind) (i : Int) (h : P.underlying t = some .string) :
    (Instr.index t (.string (bs l)) (.int k i)).run P w =
      if 0 ≤ i ∧ i < l.length then .ok (.int .u8 (byteAt l i.toNat).toNat) w else (boundsPanic k i l.length .index).run P w := by
  rw [run_index_string w t (bs l) k i h]
  by_cases hi : 0 ≤ i ∧ i < l.length
  · have hi' : 0 ≤ i ∧ i < (bs l).size := by simpa using hi
    have hl : i.toNat < l.length := by omega
    rw [dif_pos hi', if_pos hi]
    have e : (bs l)[i.toNat]'(by simpa using hl) = l[i.toNat]'hl := rfl
    rw [e, byteAt_lt hl]
  · have hi' : ¬ (0 ≤ i ∧ i < (bs l).size) := by simpa using hi
    rw [dif_neg hi', if_neg hi]
    simp
@[go_sem high] theorem run_slice_bs_from (t : TypeId) (l : List UInt8) (k : IntKind) (i : Int) (h : P.underlying t = some .string) :
    (Instr.slice t (.string (bs l)) (some (.int k i)) none none).run P w =
      if 0 ≤ i ∧ i ≤ (l.length : Int) then .ok (.string (bs (l.drop i.toNat))) w else ((boundsPanic k i l.length .sliceB : Sem Nat).run P w).andThen fun a w' => .ok (.string ((bs l).extract a l.length)) w' := by
  rw [run_slice_string_from_if w t (bs l) k i h]
  simp only [bs_size, bs_extract, List.take_length]
@[go_sem high] theorem run_slice_bs_to (t : TypeId) (l : List UInt8) (k : IntKind) (j : Int) (h : P.underlying t = some .string) :
    (Instr.slice t (.string (bs l)) none (some (.int k j)) none).run P w =
      if 0 ≤ j ∧ j ≤ (l.length : Int) then .ok (.string (bs (l.take j.toNat))) w else ((boundsPanic k j l.length .sliceAlen : Sem Nat).run P w).andThen fun a w' => .ok (.string ((bs l).extract 0 a)) w' := by
  rw [run_slice_string_to_if w t (bs l) k j h]
  simp only [bs_size, bs_extract, List.drop_zero]
@[go_sem high] theorem run_slice_bs_all (t : TypeId) (l : List UInt8) (h : P.underlying t = some .string) :
    (Instr.slice t (.string (bs l)) none none none).run P w = .ok (.string (bs l)) w := by
  rw [run_slice_string_all w t (bs l) h]
  simp only [bs_size, bs_extract, List.take_length, List.drop_zero]
@[go_sem high] theorem run_slice_bs_if (t : TypeId) (l : List UInt8) (k k' : IntKind) (i j : Int) (h : P.underlying t = some .string) :
    (Instr.slice t (.string (bs l)) (some (.int k i)) (some (.int k' j)) none).run P w =
      if 0 ≤ j ∧ j ≤ (l.length : Int) then
        (if 0 ≤ i ∧ i ≤ j then .ok (.string (bs ((l.take j.toNat).drop i.toNat))) w
         else ((boundsPanic k i j.toNat .sliceB : Sem Nat).run P w).andThen fun a w' => .ok (.string ((bs l).extract a j.toNat)) w')
      else ((boundsPanic k' j l.length .sliceAlen : Sem Nat).run P w).andThen fun b w' =>
        ((Instr.sliceBound (.int k i) b .sliceB).run P w').andThen fun a w'' => .ok (.string ((bs l).extract a b)) w'' := by
  rw [run_slice_string_if w t (bs l) k k' i j h]
  simp only [bs_size, bs_extract]
/-- 'string(b)' where b's cells are the bytes l. -/
theorem run_convert_bs (src dst e : TypeId) (a : Addr) (cap : Nat) (l : List UInt8) (hs : P.underlying src = some (.slice e)) (he : P.underlying e = some (.int .u8)) (hd : P.underlying dst = some .string)
    (hc : ∀ j (hj : j < l.length), w.cell? (a.add j) = some (.int .u8 (l[j].toNat : Int))) :
    (convert src dst (.slice (some a) l.length cap)).run P w = .ok (.string (bs l)) w :=
  run_convert_bytes_back w src dst e a cap l hs he hd hc
end
def plainDesc : TypeDesc → Bool
  | .struct _ => false
  | .array _ _ => false
  | _ => true
theorem run_isAgg_plain {P : Program} (w : World) (e : TypeId) (d : TypeDesc) (hd : P.underlying e = some d) (hp : plainDesc d = true) : (isAgg e).run P w = .ok false w := by
  unfold isAgg
  rw [Sem.run_bind, run_underlying hd w]
  cases d <;> simp_all [plainDesc]
/-- 'a[i]' of an array by value whose elements take one cell each. -/
theorem run_index_agg {P : Program} (w : World) (t e : TypeId) (n : Nat) (cs : Array Value) (k : IntKind) (i : Nat) (v : Value) (i0 : TypeInfo) (d : TypeDesc)
    (ht : P.underlying t = some (.array n e)) (hi : i < n) (he : P.info? e = some i0) (hsz : i0.size = 1) (hd : P.underlying e = some d) (hp : plainDesc d = true) (hv : cs[i]? = some v) :
    (Instr.index t (.agg cs) (.int k (i : Int))).run P w = .ok v w := by
  have h1 : (0 : Int) ≤ (i : Int) ∧ (i : Int) < (n : Int) := by omega
  have hn : ¬ n ≤ i := by omega
  simp [Instr.index, asIntOf, run_underlying ht, sizeOf, typeInfo, he, hsz, part, run_isAgg_plain w e d hd hp, hv, hn]
theorem addr_add (b o j : Nat) : (⟨b, o, none⟩ : Addr).add j = ⟨b, o + j, none⟩ := by unfold Addr.add; split <;> simp_all

theorem val_of {k : IntKind} {a b : Int} (h : a = b) : Value.int k a = Value.int k b := by rw [h]
theorem ret_of {k : IntKind} {a b : Int} (h : a = b) : Ending.returned (.int k a) = .returned (.int k b) := by rw [h]
end Go.Proofs.YtbaedepmogkkeaaGreat
