/- What the claim stands on, Pl11: contracts of functions and plain facts. No conditions. -/
import Derived.Test.YtbaedepmogkkeaaGreatChecked
import Derived.Test.YtbaedepmogkkeaaGreatPl6
import Derived.Lib.AppendStr
import Derived.Laws.AppendOwnNone
import Derived.Laws.CopyOwn
import Derived.Test.YtbaedepmogkkeaaGreatPl4
namespace Go.Proofs.YtbaedepmogkkeaaGreat
set_option linter.unusedSimpArgs false
set_option linter.unusedVariables false
set_option maxRecDepth 100000
open Go.RowKit
def byteV (b : UInt8) : Value := .int .u8 (b.toNat : Int)
def bytesV (l : List UInt8) : List Value := l.map byteV
theorem bytesV_length (l : List UInt8) : (bytesV l).length = l.length := by simp [bytesV]
theorem bytesV_append (a b : List UInt8) : bytesV (a ++ b) = bytesV a ++ bytesV b := by simp [bytesV]
theorem bytesV_at {l : List UInt8} {j : Nat} (h : j < l.length) : (bytesV l)[j]? = some (byteV (byteAt l j)) := by
 rw [byteAt_lt h]; simp [bytesV, h]
theorem bytesV_one (l : List UInt8) : ∀ u ∈ bytesV l, u.oneCell' = true := by
 intro u hu
 obtain ⟨b, _, rfl⟩ := List.mem_map.1 hu
 rfl
def RdB (w : World) (A : Option Addr) (n : Nat) (l : List UInt8) : Prop :=
 l.length = n ∧ (0 < n → ∃ ad, A = some ad ∧ ∀ j, j < n → w.cell? (ad.add j) = some (byteV (byteAt l j)))
def OwnB (w : World) (base : Nat) (A : Option Addr) (n c : Nat) (l : List UInt8) : Prop :=
 l.length = n ∧ w.ownsRow base 5 1 (.slice A n c) n (bytesV l)
def cat (l k : List UInt8) : List UInt8 := l ++ k
def over (k l : List UInt8) (n m : Nat) : List UInt8 := k.take n ++ l.drop m
section
variable {w w' : World} {A : Option Addr} {n c base B : Nat} {l : List UInt8}
theorem RdB.nil_ (w : World) (A : Option Addr) : RdB w A 0 [] := ⟨rfl, fun h => absurd h (by omega)⟩
theorem RdB.one (w : World) (b : UInt8) : RdB (w.alloc (.cells #[.int .u8 (b.toNat : Int)] 5)) (some ⟨w.heap.size, 0, none⟩) 1 [b] :=
 ⟨rfl, fun _ => ⟨_, rfl, fun j hj => by
  obtain rfl : j = 0 := by omega
  rw [addr_add, (Blk.new w 5 #[.int .u8 (b.toNat : Int)]).cell]; rfl⟩⟩
theorem RdB.below {w1 : World} (h : RdB w A n l) (hb : Below w.heap.size w w1) : RdB w1 A n l :=
 ⟨h.1, fun hn => by
  obtain ⟨ad, hA, hc⟩ := h.2 hn
  exact ⟨ad, hA, fun j hj => keep_cell hb (hc j hj)⟩⟩
theorem RdB.alloc (h : RdB w A n l) (o : Obj) : RdB (w.alloc o) A n l := h.below ((Below.refl _ _).alloc (Nat.le_refl _) o)
theorem OwnB.empty (w : World) (base : Nat) (hb : base ≤ w.heap.size) : OwnB (w.alloc (.cells #[] 5)) base (some ⟨w.heap.size, 0, none⟩) 0 0 [] :=
 ⟨rfl, rfl, .inr ⟨w.heap.size, 0, #[], rfl, hb, heap_alloc_new w _, Nat.le_refl _, Nat.zero_le _, rfl, rfl⟩⟩
theorem OwnB.lt (h : OwnB w base A n c l) {a : Addr} (hA : A = some a) : base ≤ a.block ∧ a.block < w.heap.size := by
 subst hA
 exact h.2.lt a.block rfl
theorem OwnB.row (h : OwnB w base A n c l) (hn : A ≠ none) : ∃ g cur, A = some ⟨g, 0, none⟩ ∧ base ≤ g ∧ w.heap[g]? = some (.cells cur 5 (0, 0)) ∧ n ≤ c ∧ c ≤ maxLen ∧ cur.size = c ∧ cur.toList.take n = bytesV l := by
 rcases h.2.2 with ⟨hv, _⟩ | ⟨g, cap, cur, hv, hb, hg, h1, h2, h3, h4⟩
 ·injection hv with h0; exact absurd h0 hn
 ·injection hv with h0 _ hc
  subst hc
  exact ⟨g, cur, h0, hb, hg, h1, h2, by simpa using h3, by simpa using h4⟩
theorem OwnB.keep (h : OwnB w base A n c l) (hk : ∀ g, A = some ⟨g, 0, none⟩ → w'.heap[g]? = w.heap[g]?) : OwnB w' base A n c l := by
 refine ⟨h.1, h.2.1, ?_⟩
 rcases h.2.2 with hn | ⟨g, cap, cur, hv, hb, hg, r⟩
 ·exact .inl hn
 ·refine .inr ⟨g, cap, cur, hv, hb, ?_, r⟩
  injection hv with hA
  rw [hk g hA]; exact hg
theorem OwnB.below {w1 : World} (h : OwnB w base A n c l) (hb : Below B w w1) (hB : w.heap.size ≤ B) : OwnB w1 base A n c l :=
 h.keep fun g hg => hb.block g (by have := (h.lt hg).2; simp at this; omega)
theorem OwnB.alloc (h : OwnB w base A n c l) (o : Obj) : OwnB (w.alloc o) base A n c l := h.below ((Below.refl _ _).alloc (Nat.le_refl _) o) (Nat.le_refl _)
def blockOf (A : Option Addr) : Option Nat := A.map (·.block)
theorem grown_below {w1 : World} (h : OwnB w base A n c l) (hg : w.grownBy w1 (blockOf A)) (hb : base ≤ w.heap.size) : Below base w w1 :=
 (Below.refl base w).grown hg hb fun k hk => by
  cases A with
  | none => cases hk
  | some a => injection hk with hk; subst hk; exact (h.lt rfl).1
end
theorem infoB : (Tryz.prog.info? 5).map (fun i => (i.zero, i.size, i.bytes)) = some (some (.int .u8 0), 1, 1) := by kernel_rfl
section
variable {ops : Array Oper} {rest : List Oper} {o : Oper} {a : Act} {Q : Exit → Act → World → Prop}
theorem blockOf_eq (A : Option Addr) (n c : Nat) : (Value.slice A n c).ownBlock = blockOf A := by cases A <;> rfl
theorem slice_of_owns {w : World} {base n : Nat} {v : Value} {xs : List Value} (h : w.ownsRow base 5 1 v n xs) : ∃ A c, v = .slice A n c := by
 rcases h.2 with ⟨rfl, rfl⟩ | ⟨g, cap, cur, rfl, _⟩
 ·exact ⟨_, _, rfl⟩
 ·exact ⟨_, _, rfl⟩
theorem run_append_nil_any {P : Program} (w : World) (base : Nat) (t ty e : TypeId) (i : TypeInfo) (size : Nat) (ht : P.underlying t = some (.slice e)) (hi : P.info? e = some i)
  (v : Value) (n : Nat) (xs : List Value) (hown : w.ownsRow base e size v n xs) (c : Nat) : (Builtin.append_ #[t, t] ty #[v, .slice none 0 c]).run P w = .ok v w := by
 rcases hown.2 with ⟨rfl, rfl⟩ | ⟨g, cap, cur, rfl, _, _, hnc, _⟩
 ·simp [Builtin.append_, run_underlying ht, sizeOf, typeInfo, hi, Builtin.lenOf, Builtin.firstCells]
 ·simp [Builtin.append_, run_underlying ht, sizeOf, typeInfo, hi, Builtin.lenOf, Builtin.firstCells, hnc, storeCells]
theorem wpList_appB (w : World) (hgd : o.guard = none) (s x : Operand) (ho : o.op = .call { callee := .builtin .append, args := #[s, x], argTypes := #[75, 75] })
  (base : Nat) {A : Option Addr} {n c : Nat} {l : List UInt8} (hs : a.eval s = .slice A n c) (hown : OwnB w base A n c l)
  {X : Option Addr} {m c2 : Nat} {k : List UInt8} (hx : a.eval x = .slice X m c2) (hr : RdB w X m k) (hlen : n + m ≤ 140737488355328) (hbase : base ≤ w.heap.size)
  (h : ∀ A' c' w', Hid (OwnB w' base A' (n + m) c' (cat l k)) → w.grownBy w' (blockOf A) → wpList Tryz.prog ops Q rest (a.put o.dst (.slice A' (n + m) c')) w') : wpList Tryz.prog ops Q (o :: rest) a w := by
 obtain ⟨i, hi, hz0, hz1, hz2⟩ := info_parts infoB
 have h63 : n + m ≤ maxLen := by unfold maxLen; omega
 cases X with
 | none =>
  have hm : m = 0 := by
   rcases Nat.eq_zero_or_pos m with h0 | h0
   ·exact h0
   ·obtain ⟨_, he, _⟩ := hr.2 h0; cases he
  subst hm
  obtain rfl := List.eq_nil_of_length_eq_zero hr.1
  refine wpList_plain hgd fun K hK => ?_
  have hrun := run_append_nil_any (P := Tryz.prog) w base 75 o.type 5 i 1 Tryz.underlying75 hi (.slice A n c) n (bytesV l) hown.2 c2
  have hw := h A c w (Lib.hid (by simpa [cat] using hown)) ⟨rfl, rfl, rfl, Nat.le_refl _, fun _ _ _ => rfl⟩
  unfold Oper.wp execOp
  simp only [ho, resolve, invoke, builtin, Sem.run_bind, Sem.run_pure, Result.andThen_ok, List.map_toArray, List.map_cons, List.map_nil, hs, hx, hrun]
  exact hK _ _ hw
 | some ad =>
  refine wpList_append_own w hgd s x 75 ho base 5 i (.int .u8 0) 1 1 Tryz.underlying75 hi hz0 hz1 hz2 rfl (by decide) _ n _ hs hown.2 ad m c2 (bytesV k) hx (by rw [bytesV_length, hr.1, Nat.mul_one]) ?_ (bytesV_one k) h63 (by omega) hbase ?_
  ·intro j u hu
   have hj : j < m := by
    rcases Nat.lt_or_ge j m with h0 | h0
    ·exact h0
    ·rw [List.getElem?_eq_none (by rw [bytesV_length, hr.1]; exact h0)] at hu; cases hu
   obtain ⟨ad', hA, hc⟩ := hr.2 (by omega)
   injection hA with hA; subst hA
   rw [bytesV_at (by rw [hr.1]; exact hj)] at hu
   rw [← hu]; exact hc j hj
  ·intro v' w' hown' hg _
   obtain ⟨A', c', rfl⟩ := slice_of_owns hown'
   rw [blockOf_eq] at hg
   exact h A' c' w' (Lib.hid ⟨by rw [cat, List.length_append, hown.1, hr.1], by rw [cat, bytesV_append]; exact hown'⟩) hg
theorem wpList_appS (w : World) (hgd : o.guard = none) (s x : Operand) (ho : o.op = .call { callee := .builtin .append, args := #[s, x], argTypes := #[75, 9] })
  (base : Nat) {A : Option Addr} {n c : Nat} {l : List UInt8} (hs : a.eval s = .slice A n c) (hown : OwnB w base A n c l)
  {k : List UInt8} (hx : a.eval x = .string (bs k)) (hlen : n + k.length ≤ 140737488355328) (hbase : base ≤ w.heap.size)
  (h : ∀ A' c' w', Hid (OwnB w' base A' (n + k.length) c' (cat l k)) → w.grownBy w' (blockOf A) → wpList Tryz.prog ops Q rest (a.put o.dst (.slice A' (n + k.length) c')) w') : wpList Tryz.prog ops Q (o :: rest) a w := by
 obtain ⟨i, hi, hz0, hz1, hz2⟩ := info_parts infoB
 refine Lib.wpList_append_own_string w hgd s x 75 9 ho base 5 i Tryz.underlying75 Tryz.underlying9 hi hz0 hz1 hz2 _ n _ hs hown.2 (bs k) hx (by rw [bs_size]; unfold maxLen; omega) (by rw [bs_size]; exact hlen) hbase ?_
 intro v' w' hown' hg _
 rw [bs_size] at hown'
 obtain ⟨A', c', rfl⟩ := slice_of_owns hown'
 rw [blockOf_eq] at hg
 have e : Lib.strCells (bs k) = bytesV k := by simp [Lib.strCells, bytesV, byteV]
 exact h A' c' w' (Lib.hid ⟨by rw [cat, List.length_append, hown.1], by rw [cat, bytesV_append, ← e]; exact hown'⟩) hg
theorem madeB (n : Nat) : (madeCells (Value.int .u8 0).cells n).toList = bytesV (List.replicate n 0) := by
 apply List.ext_getElem?
 intro i
 by_cases hi : i < n
 ·simp [madeCells, bytesV, byteV, hi, Value.cells, Nat.mod_one]
 ·rw [List.getElem?_eq_none (by simp [madeCells]; omega), List.getElem?_eq_none (by simp [bytesV]; omega)]
theorem wpList_makeB (w : World) (hgd : o.guard = none) (x y : Operand) (ho : o.op = Op.makeSlice 75 x y) (base n c : Nat) {N C : Int} (hx : a.eval x = .int .i64 N) (hy : a.eval y = .int .i64 C)
  (hN : N = (n : Int)) (hC : C = (c : Int)) (hnc : n ≤ c) (hlen : c ≤ 140737488355328) (hbase : base ≤ w.heap.size)
  (h : ∀ w', Hid (OwnB w' base (some ⟨w.heap.size, 0, none⟩) n c (List.replicate n 0)) → Below w.heap.size w w' → w'.heap.size = w.heap.size + 1 → wpList Tryz.prog ops Q rest (a.put o.dst (.slice (some ⟨w.heap.size, 0, none⟩) n c)) w') : wpList Tryz.prog ops Q (o :: rest) a w := by
 obtain ⟨i, hi, hz0, hz1, hz2⟩ := info_parts infoB
 subst hN hC
 refine wpList_plain hgd fun K hK => ?_
 have hrun := run_make (P := Tryz.prog) w 75 5 i (.int .u8 0) Tryz.underlying75 hi hz0 .i64 .i64 (n : Int) (c : Int) (by omega) (by omega) (by rw [hz2]; omega) (by omega)
 rw [Int.toNat_natCast, Int.toNat_natCast, hz1, Nat.mul_one] at hrun
 have hw := h (w.alloc (.cells (madeCells (Value.int .u8 0).cells c) 5)) (Lib.hid ⟨List.length_replicate, by rw [bytesV_length, List.length_replicate, Nat.mul_one], .inr ⟨w.heap.size, c, _, rfl, hbase, heap_alloc_new w _, hnc, by unfold maxLen; omega, by rw [size_madeCells, Nat.mul_one], by
  rw [madeB, Nat.mul_one, bytesV, bytesV, ← List.map_take, List.take_replicate, Nat.min_eq_left hnc]⟩⟩) ((Below.refl _ _).alloc (Nat.le_refl _) _) (by simp)
 unfold Oper.wp execOp
 simp only [ho, hx, hy, Sem.run_bind, Sem.run_pure, Result.andThen_ok, hrun]
 exact hK _ _ hw
theorem wpList_copyB (w : World) (hgd : o.guard = none) (d s : Operand) (ho : o.op = .call { callee := .builtin .copy, args := #[d, s], argTypes := #[75, 75] })
  (base : Nat) {D : Option Addr} {n c : Nat} {l : List UInt8} (hd : a.eval d = .slice D n c) (hown : OwnB w base D n c l)
  {X : Option Addr} {m c2 : Nat} {k : List UInt8} (hs : a.eval s = .slice X m c2) (hr : RdB w X m k) (hD : D ≠ none)
  (h : ∀ w', Hid (OwnB w' base D n c (over k l n m)) → Below base w w' → wpList Tryz.prog ops Q rest (a.put o.dst (goInt (min m n : Nat))) w') : wpList Tryz.prog ops Q (o :: rest) a w := by
 obtain ⟨i, hi, hz0, hz1, hz2⟩ := info_parts infoB
 obtain ⟨g, cur, hA, hbg, hg, hnc, hcm, hcs, htk⟩ := hown.row hD
 have hkl := hr.1
 have hll := hown.1
 have hcl : (bytesV (k.take n)).length = Nat.min m n := by
  rw [bytesV_length, List.length_take, hkl]; exact Nat.min_comm _ _
 have hmin : Nat.min m n ≤ n := Nat.min_le_right _ _
 have hmin2 : Nat.min m n ≤ m := Nat.min_le_left _ _
 refine wpList_copy_splice hgd d s 75 75 ho 5 Tryz.underlying75 (by rw [hi]; simp [hz1]) D X n c m c2 hd hs g 0 cur.toList 5 (by simpa using hg) (bytesV (k.take n)) hcl ?_ ?_ (bytesV_one _) base w (Below.refl _ _) hbg ?_
 ·intro hpos
  rw [hcl] at hpos
  obtain ⟨ad, hX, hc⟩ := hr.2 (by omega)
  refine ⟨hA, ad, hX, fun j u hu => ?_⟩
  have hj : j < Nat.min m n := by
   rcases Nat.lt_or_ge j (Nat.min m n) with h0 | h0
   ·exact h0
   ·rw [List.getElem?_eq_none (by omega)] at hu; cases hu
  rw [bytesV_at (by rw [List.length_take, hkl]; rw [Nat.min_comm]; exact hj)] at hu
  rw [← hu, hc j (by omega)]
  have e : byteAt (k.take n) j = byteAt k j := by unfold byteAt; rw [List.getElem?_take_of_lt (by omega)]
  rw [e]
 ·rw [hcl]; simp; omega
 ·intro w' hg' hb'
  rw [hcl]
  have hg2 := hg'.out
  refine h w' (show OwnB w' base D n c (k.take n ++ l.drop m) from ⟨?_, ?_, .inr ⟨g, c, _, by rw [hA], hbg, hg2, hnc, hcm, ?_, ?_⟩⟩) hb'
  ·rw [List.length_append, List.length_take, List.length_drop, hkl, hll]; omega
  ·rw [bytesV_length, List.length_append, List.length_take, List.length_drop, hkl, hll, Nat.mul_one]; omega
  ·rw [List.size_toArray, length_splice _ _ _ (by rw [hcl]; simp; omega)]; simp [hcs]
  ·rw [Nat.mul_one]
   unfold splice
   rw [List.take_zero, List.nil_append, Nat.zero_add, bytesV_append]
   have e1 : (bytesV (k.take n)).length ≤ n := by omega
   rw [List.take_append, List.take_of_length_le e1]
   congr 1
   rw [List.take_drop, show (bytesV (k.take n)).length + (n - (bytesV (k.take n)).length) = n by omega, htk, hcl]
   rw [bytesV, ← List.map_drop]
   rcases Nat.le_total m n with hmn | hmn
   ·rw [show Nat.min m n = m from Nat.min_eq_left hmn]; rfl
   ·rw [show Nat.min m n = n from Nat.min_eq_right hmn, List.drop_eq_nil_of_le (by omega), List.drop_eq_nil_of_le (by omega)]; rfl
end
def RetB (base : Nat) (w : World) (l : List UInt8) (e : Ending) (w' : World) : Prop :=
 ∃ A n c, e = .returned (.slice A n c) ∧ OwnB w' base A n c l ∧ Below base w w'
set_option maxHeartbeats 400000 in
theorem sized_yes (n : Int) (w : World) (h1 : 1 ≤ n) (h2 : n ≤ 8) : Calls Tryz.prog 176 #[.int .i64 n] w fun e w' => e = .returned (.bool true) ∧ w = w' := by
 go_enter Tryz.func176, Tryz.ntmps176
 go_wp2
 go_ret
 exact ⟨by simp [h1, h2], rfl⟩
set_option maxHeartbeats 400000 in
theorem sized_no (n : Int) (w : World) (h : n < 1 ∨ 8 < n) : Calls Tryz.prog 176 #[.int .i64 n] w fun e w' => e = .returned (.bool false) ∧ w = w' := by
 rcases h with h | h
 ·have h' : decide (1 ≤ n) = false := by simp; omega
  go_enter Tryz.func176, Tryz.ntmps176
  go_wp2
  go_ret
  exact ⟨by simp [h'], rfl⟩
 ·have h' : 1 ≤ n := by omega
  go_enter Tryz.func176, Tryz.ntmps176
  go_wp2
  go_ret
  exact ⟨by simp; omega, rfl⟩
set_option maxHeartbeats 400000 in
theorem grown_any (A : Option Addr) (n c m : Nat) (l : List UInt8) (w : World) (base : Nat) (hr : RdB w A n l) (hn : n ≤ 70368744177664) (hm : m ≤ 70368744177664) (hb : base ≤ w.heap.size) :
  Calls Tryz.prog 177 #[.slice A n c, .int .i64 m] w (RetB base w l) := by
 have HR := Lib.hid hr; clear hr
 go_enter Tryz.func177, Tryz.ntmps177
 go_wp2_with (at_make; refine wpList_makeB _ rfl _ _ rfl base n (n + m) rfl rfl rfl (by omega) (by omega) (by omega) hb ?_)
 intro w1 hown hb1 hz1
 go_wp2_with (with_reducible refine wpList_copyB _ rfl (.tmp 13) (.tmp 14) rfl base rfl hown.out rfl (HR.out.below hb1) (by simp) ?_)
 intro w2 hown2 hb2
 go_wp2_with fail
 go_ret
 have e : l.take n ++ (List.replicate n (0 : UInt8)).drop n = l := by rw [List.drop_eq_nil_of_le (by simp), List.append_nil, List.take_of_length_le (by have := HR.out.1; omega)]
 have h := hown2.out
 rw [over, e] at h
 exact ⟨_, _, _, rfl, h, (hb1.mono hb).trans hb2⟩
set_option maxHeartbeats 400000 in
theorem lay_any (A : Option Addr) (n c size x : Nat) (l : List UInt8) (w : World) (base : Nat) (hown : OwnB w base A n c l) (hs : size ≤ 8) (hn : n ≤ 70368744177664) (hx : x < 18446744073709551616) (hb : base ≤ w.heap.size) :
  Calls Tryz.prog 178 #[.slice A n c, .int .i64 size, .int .u64 x] w (RetB base w (l ++ Quill.numB size x)) := by
 have HO := Lib.hid hown; clear hown
 go_enter Tryz.func178, Tryz.ntmps178
 go_wp2
 go_loopw [0, 7] (fun v i wr => ∃ (k : Nat) (A' : Option Addr) (c' : Nat), k ≤ size ∧ i = .int .i64 (8 * ((size : Int) - 1 - k)) ∧ v = .slice A' (n + k) c' ∧ OwnB wr base A' (n + k) c' (l ++ (List.range k).map (Quill.byteOf size x)) ∧ Below base w wr) (fun _ i _ => (intOf i + 8).toNat)
 case atStart => exact ⟨0, A, c, by omega, by go_num, rfl, by simpa using HO.out, Below.refl _ _⟩
 case round =>
  clear HO
  obtain ⟨k, A', c', hk, rfl, rfl, hown, hbel⟩ := hrel
  have HO := Lib.hid (And.intro hown hbel); clear hown hbel
  by_cases hlt : k < size
  ·obtain ⟨t, ht, hT⟩ : ∃ t : Nat, 8 * ((size : Int) - 1 - k) = t ∧ Hid (t = 8 * (size - 1 - k)) := ⟨8 * (size - 1 - k), by omega, rfl⟩
   obtain ⟨b, hbv, hB⟩ : ∃ b : UInt8, (x : Int) / 2 ^ t % 256 = (b.toNat : Int) ∧ Hid (b = Quill.byteOf size x k) := ⟨Quill.byteOf size x k, by rw [Quill.byteOf_toNat, ← hT.out]; exact Quill.cast_byte x t, rfl⟩
   have hbz : base ≤ wr.heap.size := Nat.le_trans hb HO.out.2.size
   go_wp2_with (at_builtin; refine wpList_appB _ rfl _ _ rfl base rfl (HO.out.1.alloc _) rfl (RdB.one wr b) (by omega) (by simp; omega) ?_)
   intro A2 c2 w2 hown2 hg2
   go_wp2_with fail
   go_roundw
   case rel =>
    refine ⟨k + 1, A2, c2, by omega, by rw [← ht]; go_num, rfl, ?_, HO.out.2.trans (((Below.refl base wr).alloc hbz _).trans (grown_below (HO.out.1.alloc _) hg2 (by simp; omega)))⟩
    have h := hown2.out
    rw [cat, hB.out, List.append_assoc, ← Quill.range_map_snoc] at h
    exact h
   case measure => simp [intOf]; omega
  ·obtain rfl : k = size := by omega
   go_wp2
   go_ret
   exact ⟨_, _, _, rfl, HO.out.1, HO.out.2⟩
set_option maxHeartbeats 400000 in
theorem num_yes (A : Option Addr) (n c size x : Nat) (l : List UInt8) (w : World) (base : Nat) (hr : RdB w A n l) (h1 : 1 ≤ size) (h2 : size ≤ 8) (hn : n ≤ 35184372088832) (hx : x < 18446744073709551616) (hb : base ≤ w.heap.size) :
  Calls Tryz.prog 124 #[.slice A n c, .int .i64 size, .int .u64 x] w (RetB base w (l ++ Quill.numB size x)) := by
 have HR := Lib.hid hr; clear hr
 go_enter Tryz.func124, Tryz.ntmps124
 go_wp2_with fail
 refine (sized_yes _ _ (by omega) (by omega)).mono ?_; rintro e w1 ⟨rfl, rfl⟩
 go_wp2_with fail
 refine (grown_any A n c size l _ base HR.out (by omega) (by omega) hb).mono ?_; rintro e w1 ⟨A1, n1, c1, rfl, ho1, hb1⟩
 have hz : base ≤ w1.heap.size := Nat.le_trans hb hb1.size
 have hn1 : n1 = n := by rw [← ho1.1, HR.out.1]
 subst hn1
 have HO := Lib.hid ho1; clear ho1
 go_wp2_with fail
 refine (lay_any A1 n1 c1 size x l _ base HO.out h2 (by omega) hx hz).mono ?_; rintro e w2 ⟨A2, n2, c2, rfl, ho2, hb2⟩
 have HO2 := Lib.hid ho2; clear ho2
 go_wp2_with fail
 go_ret
 exact ⟨_, _, _, rfl, HO2.out, hb1.trans hb2⟩
def RetBE (base : Nat) (w : World) (l : List UInt8) (n : Int) (e : Ending) (w' : World) : Prop :=
 ∃ A k c, e = .returned (.tuple #[.slice A k c, .int .i64 n]) ∧ OwnB w' base A k c l ∧ Below base w w'
set_option maxHeartbeats 400000 in
theorem row_any (A : Option Addr) (n c : Nat) (l s : List UInt8) (w : World) (base : Nat) (hr : RdB w A n l) (hn : n ≤ 17592186044416) (hs : s.length ≤ 65535) (hb : base ≤ w.heap.size) :
  Calls Tryz.prog 162 #[.slice A n c, .string (bs s)] w (RetBE base w (l ++ Quill.rowB s) 0) := by
 have HR := Lib.hid hr; clear hr
 go_enter Tryz.func162, Tryz.ntmps162
 go_wp2_with fail
 refine (grown_any A n c (2 + s.length) l _ base HR.out (by omega) (by omega) hb).mono ?_; rintro e w1 ⟨A1, n1, c1, rfl, ho1, hb1⟩
 have hz : base ≤ w1.heap.size := Nat.le_trans hb hb1.size
 have hn1 : n1 = n := by rw [← ho1.1, HR.out.1]
 subst hn1
 have HO := Lib.hid ho1; clear ho1
 go_wp2_with fail
 refine (lay_any A1 n1 c1 2 s.length l _ base HO.out (by omega) (by omega) (by omega) hz).mono ?_; rintro e w2 ⟨A2, n2, c2, rfl, ho2, hb2⟩
 have hz2 : base ≤ w2.heap.size := Nat.le_trans hz hb2.size
 have hn2 : n2 = n1 + 2 := by rw [← ho2.1, List.length_append, Quill.numB_length, HR.out.1]
 subst hn2
 have HO2 := Lib.hid ho2; clear ho2
 go_wp2_with (at_builtin; refine wpList_appS _ rfl _ _ rfl base rfl HO2.out rfl (by omega) hz2 ?_)
 intro A3 c3 w3 ho3 hg3
 go_wp2_with fail
 go_ret2
 have h := ho3.out
 rw [cat, List.append_assoc] at h
 exact ⟨_, _, _, rfl, h, (hb1.trans hb2).trans (grown_below HO2.out hg3 hz2)⟩
set_option maxHeartbeats 400000 in
theorem refnum_any (A : Option Addr) (n c size x : Nat) (l : List UInt8) (w : World) (base : Nat) (hr : RdB w A n l) (h1 : 1 ≤ size) (h2 : size ≤ 8) (hn : n ≤ 35184372088832) (hx : x < 18446744073709551616) (hb : base ≤ w.heap.size) :
  Calls Tryz.prog 131 #[.slice A n c, .int .i64 size, .int .u64 x] w (RetB base w (l ++ Quill.numB size x)) := by
 have HR := Lib.hid hr; clear hr
 go_enter Tryz.func131, Tryz.ntmps131
 go_wp2_with (at_builtin; refine wpList_appB _ rfl _ _ rfl base rfl (OwnB.empty w base hb) rfl (HR.out.alloc _) (by omega) (by simp; omega) ?_)
 intro A1 c1 w1 ho1 hg1
 have hb1 : Below base w w1 := ((Below.refl base w).alloc hb _).trans (grown_below (OwnB.empty w base hb) hg1 (by simp; omega))
 have hz1 : base ≤ w1.heap.size := Nat.le_trans hb hb1.size
 clear hg1
 have ho1' : OwnB w1 base A1 n c1 l := by have h := ho1.out; rw [cat, List.nil_append] at h; exact h
 have HO := Lib.hid ho1'; clear ho1 ho1'
 go_wp2
 go_loopw [7, 8, 9, 10] (fun v i u j wr => ∃ (k : Nat) (A' : Option Addr) (c' : Nat), k ≤ size ∧ i = .int .i64 ((size : Int) - 1 - k) ∧ v = .slice A' (n + k) c' ∧ OwnB wr base A' (n + k) c' (l ++ (List.range k).map (Quill.byteOf size x)) ∧ Below base w wr) (fun _ i _ _ _ => (intOf i + 1).toNat)
 case atStart => exact ⟨0, A1, c1, by omega, by go_num, by simp, by simpa using HO.out, hb1⟩
 case round =>
  clear HO hb1 hz1
  obtain ⟨k, A', c', hk, rfl, rfl, hown, hbel⟩ := hrel
  have HO := Lib.hid (And.intro hown hbel); clear hown hbel
  by_cases hlt : k < size
  ·obtain ⟨t, ht, hT⟩ : ∃ t : Nat, (size : Int) - 1 - k = t ∧ Hid (t = size - 1 - k) := ⟨size - 1 - k, by omega, rfl⟩
   have htl : t ≤ 8 := by have := hT.out; omega
   go_wp2
   go_loop [9, 10] (fun u j => ∃ m : Nat, m ≤ t ∧ j = .int .i64 m ∧ u = .int .u64 ((x / 256 ^ m : Nat) : Int)) (fun _ j => t - (intOf j).toNat)
   case atStart => exact ⟨0, by omega, rfl, by simp⟩
   case round =>
    obtain ⟨m, hm, rfl, rfl⟩ := hrel
    have hxm : x / 256 ^ m < 18446744073709551616 := Nat.lt_of_le_of_lt (Nat.div_le_self _ _) hx
    have hxs : x / 256 ^ m / 256 = x / 256 ^ (m + 1) := by rw [Nat.div_div_eq_div_mul, Nat.pow_succ]
    obtain ⟨y, hy⟩ : ∃ y, x / 256 ^ m = y := ⟨_, rfl⟩
    rw [hy] at hxm hxs ⊢
    have HXS := Lib.hid hxs; clear hxs
    have HY := Lib.hid hy; clear hy
    by_cases hmt : m < t
    ·go_wp2
     go_round
     case rel => exact ⟨m + 1, by omega, by go_num, val_of (by rw [← HXS.out]; rfl)⟩
     case measure => simp [intOf]; omega
    ·obtain rfl : m = t := by omega
     obtain ⟨b, hbv, hB⟩ : ∃ b : UInt8, (y : Int) % 256 = (b.toNat : Int) ∧ Hid (b = Quill.byteOf size x k) := by
      refine ⟨Quill.byteOf size x k, ?_, rfl⟩
      rw [Quill.byteOf_toNat, ← hT.out, ← HY.out, Nat.pow_mul]; rfl
     have hbz : base ≤ wr.heap.size := Nat.le_trans hb HO.out.2.size
     go_wp2_with (at_builtin; refine wpList_appB _ rfl _ _ rfl base rfl (HO.out.1.alloc _) rfl (RdB.one wr b) (by omega) (by simp; omega) ?_)
     intro A2 c2 w2 hown2 hg2
     go_wp2_with fail
     go_roundw
     case rel =>
      refine ⟨k + 1, A2, c2, by omega, by rw [← ht]; go_num, rfl, ?_, HO.out.2.trans (((Below.refl base wr).alloc hbz _).trans (grown_below (HO.out.1.alloc _) hg2 (by simp; omega)))⟩
      have h := hown2.out
      rw [cat, hB.out, List.append_assoc, ← Quill.range_map_snoc] at h
      exact h
     case measure => simp [intOf]; omega
  ·obtain rfl : k = size := by omega
   go_wp2
   go_ret
   exact ⟨_, _, _, rfl, HO.out.1, HO.out.2⟩
set_option maxHeartbeats 400000 in
theorem stands_yes (t : List UInt8) (p b : Int) (w : World) (h0 : 0 ≤ p) (h1 : p ≤ (t.length : Int)) :
  Calls Tryz.prog 179 #[.agg #[.string (bs t), .int .i64 p, .int .i64 b]] w fun e w' => e = .returned (.bool true) ∧ Below w.heap.size w w' := by
 go_enter Tryz.func179, Tryz.ntmps179
 go_wp2
 go_ret
 exact ⟨rfl, (Below.refl _ _).alloc (Nat.le_refl _) _⟩
set_option maxHeartbeats 400000 in
theorem stands_no (t : List UInt8) (p b : Int) (w : World) (h : p < 0 ∨ (t.length : Int) < p) (hl : t.length ≤ 9223372036854775807) :
  Calls Tryz.prog 179 #[.agg #[.string (bs t), .int .i64 p, .int .i64 b]] w fun e w' => e = .returned (.bool false) ∧ Below w.heap.size w w' := by
 by_cases h0 : 0 ≤ p
 ·have h2 : (t.length : Int) < p := by omega
  clear h
  go_enter Tryz.func179, Tryz.ntmps179
  go_wp2
  go_ret
  exact ⟨by simp; try omega, (Below.refl _ _).alloc (Nat.le_refl _) _⟩
 ·have h2 : decide (0 ≤ p) = false := by simpa using h0
  clear h
  go_enter Tryz.func179, Tryz.ntmps179
  go_wp2
  go_ret
  exact ⟨by first | rfl | (simp; omega), (Below.refl _ _).alloc (Nat.le_refl _) _⟩
set_option maxHeartbeats 400000 in
theorem left_any (t : List UInt8) (p b : Int) (w : World) (h0 : 0 ≤ p) (h1 : p ≤ (t.length : Int)) (hl : t.length ≤ 9223372036854775807) :
  Calls Tryz.prog 181 #[.agg #[.string (bs t), .int .i64 p, .int .i64 b]] w fun e w' => e = .returned (.int .i64 ((t.length : Int) - p)) ∧ Below w.heap.size w w' := by
 go_enter Tryz.func181, Tryz.ntmps181
 go_wp2
 go_ret
 exact ⟨rfl, (Below.refl _ _).alloc (Nat.le_refl _) _⟩
set_option maxHeartbeats 400000 in
theorem fails_any (t : List UInt8) (p b e : Int) (w : World) :
  Calls Tryz.prog 180 #[.agg #[.string (bs t), .int .i64 p, .int .i64 b], .int .i64 e] w fun r w' => r = .returned (.agg #[.string (bs t), .int .i64 p, .int .i64 e]) ∧ Below w.heap.size w w' := by
 go_enter Tryz.func180, Tryz.ntmps180
 go_wp2
 exact bodyPost_ret (v := .agg #[.string (bs t), .int .i64 p, .int .i64 e]) (by simp [results, Tryz.results180, go_sem]) rfl ⟨rfl, ((Below.refl _ _).alloc (Nat.le_refl _) _).alloc (by simp) _⟩
def RetNS (w : World) (x : Nat) (t : List UInt8) (p b : Int) (e : Ending) (w' : World) : Prop :=
 e = .returned (.tuple #[.int .u64 (x : Int), .agg #[.string (bs t), .int .i64 p, .int .i64 b]]) ∧ Below w.heap.size w w'
theorem wrap64u (n : Int) (h0 : 0 ≤ n) (h1 : n < 18446744073709551616) : IntKind.u64.wrap n = n := by
 have : IntKind.u64.wrap n = n % 18446744073709551616 := by simp [IntKind.wrap, IntKind.bits, IntKind.signed]
 rw [this]; omega
theorem tell_step (D : List UInt8) (k : Nat) (hk : k < D.length) (h8 : D.length ≤ 8) :
  bits .or .u64 (IntKind.u64.wrap (((Quill.tell (D.take k) : Nat) : Int) * 256)) (IntKind.u64.wrap ((byteAt D k).toNat : Int)) = ((Quill.tell (D.take (k + 1)) : Nat) : Int) := by
 have hb := (byteAt D k).toNat_lt
 have ht := Quill.tell_lt (D.take k)
 rw [List.length_take, Nat.min_eq_left (by omega)] at ht
 have hp : 256 ^ k ≤ 256 ^ 7 := Nat.pow_le_pow_right (by omega) (by omega)
 have hlt : Quill.tell (D.take k) < 72057594037927936 := Nat.lt_of_lt_of_le ht hp
 rw [take_snoc D k hk, Quill.tell_snoc]
 generalize Quill.tell (D.take k) = a at hlt
 generalize (byteAt D k).toNat = b at hb
 rw [wrap64u _ (by omega) (by omega), wrap64u _ (by omega) (by omega)]
 have e : ((a : Int) * 256) = ((a * 256 : Nat) : Int) := by omega
 rw [e, u64_or_nat _ _ (by omega) (by omega)]
 have e2 : a * 256 ||| b = a * 256 + b := by
  have := Nat.shiftLeft_add_eq_or_of_lt (i := 8) hb a
  rw [Nat.shiftLeft_eq] at this
  exact this.symm
 rw [e2]
theorem infoSc : (Tryz.prog.info? 205).map (·.size) = some 3 := by kernel_rfl
set_option maxHeartbeats 400000 in
theorem snum_bad (t : List UInt8) (p b size : Int) (w : World) (hb : (b != 0) = true) :
  Calls Tryz.prog 126 #[.agg #[.string (bs t), .int .i64 p, .int .i64 b], .int .i64 size] w (RetNS w 0 t p b) := by
 go_enter Tryz.func126, Tryz.ntmps126
 go_wp2_with fail
 go_region
 go_wp2_with fail
 exact bodyPost_ret (results_tmp_row rfl _ _ (w.heap.size + 1) 205 _ _ rfl (Blk.new2 w _ _ _) Tryz.underlying205 rfl infoSc) rfl ⟨rfl, (((Below.refl _ _).alloc (Nat.le_refl _) _).alloc (by simp) _).drew⟩
set_option maxRecDepth 100000 in
set_option maxHeartbeats 400000 in
theorem snum_any (t : List UInt8) (p size : Nat) (w : World) (h1 : p + size ≤ t.length) (hs1 : 1 ≤ size) (hs8 : size ≤ 8) (hl : t.length ≤ 70368744177664) :
  Calls Tryz.prog 126 #[.agg #[.string (bs t), .int .i64 p, .int .i64 0], .int .i64 size] w (RetNS w (Quill.tell ((t.drop p).take size)) t ((p + size : Nat) : Int) 0) := by
 go_enter Tryz.func126, Tryz.ntmps126
 go_wp2_with fail
 refine (stands_yes _ _ _ _ (by omega) (by omega)).mono ?_; rintro e w1 ⟨rfl, hb1⟩
 obtain ⟨k0, k1, hb, hz⟩ := two_boxes hb1
 clear hb1
 have c0 := (Blk.c3 k0).1
 have HK := Lib.hid (And.intro k0 (And.intro k1 hb)); clear k0 k1 hb
 go_wp2_with fail
 refine (sized_yes _ _ (by omega) (by omega)).mono ?_; rintro e w2 ⟨rfl, rfl⟩
 go_wp2_with fail
 refine (left_any _ _ _ _ (by omega) (by omega) (by omega)).mono ?_; rintro e w2 ⟨rfl, hb2⟩
 have k0 : Blk w2 w.heap.size _ _ := Blk.below HK.out.1 hb2 (by omega)
 have k1 : Blk w2 (w.heap.size + 1) _ _ := Blk.below HK.out.2.1 hb2 (by omega)
 have c0' := (Blk.c3 k0).1
 have hb := HK.out.2.2.trans (hb2.mono (by omega))
 have hz2 : w.heap.size + 1 < w2.heap.size := by have := hb2.size; omega
 clear c0 hb2 HK
 have HK := Lib.hid (And.intro k0 (And.intro k1 hb)); clear k0 k1 hb
 obtain ⟨D, hD, hDl, hDt⟩ : ∃ D, (t.take (p + size)).drop p = D ∧ D.length = size ∧ Hid (D = (t.drop p).take size) := by
  refine ⟨_, rfl, ?_, ?_⟩
  ·rw [List.length_drop, List.length_take]; omega
  ·rw [List.drop_take, Nat.add_sub_cancel_left]; rfl
 obtain ⟨w3, cap, hrun, hbuf, hb3, hz3, hcap⟩ := conv_bytes (P := Tryz.prog) w2 9 75 5 D Tryz.underlying9 Tryz.underlying75 Tryz.underlying5
 rw [hDl] at hcap hrun
 go_wp2_with fail
 generalize w2.heap.size = g2 at *
 have HF := Lib.hid (And.intro hbuf hb3)
 have HDL := Lib.hid hDl
 clear hrun hbuf hb3 hD hDl c0'
 go_loop [6, 43] (fun n i => ∃ k : Nat, k ≤ size ∧ i = .int .i64 k ∧ n = .int .u64 (Quill.tell (D.take k) : Nat)) (fun _ i => size - (intOf i).toNat)
 case atStart => exact ⟨0, by omega, rfl, rfl⟩
 case round =>
  obtain ⟨k, hk, rfl, rfl⟩ := hrel
  by_cases hlt : k < size
  ·have hc := HF.out.1.cell (j := k) (by rw [HDL.out]; exact hlt)
   have hki : (k : Int) < (size : Int) := by omega
   go_wp2_with fail
   go_round
   case rel => exact ⟨k + 1, by omega, by go_num, val_of (tell_step D k (by rw [HDL.out]; exact hlt) (by rw [HDL.out]; exact hs8))⟩
   case measure => simp [intOf]; omega
  ·obtain rfl : k = size := by omega
   have k0 : Blk w3 w.heap.size _ _ := Blk.below HK.out.1 HF.out.2 (by omega)
   have k1 : Blk w3 (w.heap.size + 1) _ _ := Blk.below HK.out.2.1 HF.out.2 (by omega)
   have c0 := Blk.c3 k0
   have c1 := Blk.c3 k1
   have HB := Lib.hid (And.intro k0 (And.intro k1 (HK.out.2.2.trans (HF.out.2.mono (by omega))))); clear k0 k1 HK
   have htl : D.take k = D := List.take_of_length_le (by rw [HDL.out]; omega)
   have HT := Lib.hid htl; clear htl
   go_wp2_with fail
   go_region
   go_wp2_with fail
   have hB : Blk _ (w.heap.size + 1) 205 #[.string (bs t), .int .i64 ((p : Int) + (k : Int)), .int .i64 0] :=
    ((((HB.out.2.1.far (p := ⟨w.heap.size, 1, none⟩) (by simp) (.int .i64 ((p : Int) + (k : Int)))).set 0 (.string (bs t))).set 1 (.int .i64 ((p : Int) + (k : Int)))).set 2 (.int .i64 0)).drew
   refine bodyPost_ret (results_tmp_row rfl _ _ (w.heap.size + 1) 205 _ _ rfl hB Tryz.underlying205 rfl infoSc) rfl ⟨?_, ?_⟩
   ·rw [← hDt.out]
    show Ending.returned (.tuple #[.int .u64 ((Quill.tell (D.take k) : Nat) : Int), _]) = _
    rw [HT.out, Int.natCast_add]
   ·exact ((((HB.out.2.2.setCell (p := ⟨w.heap.size, 1, none⟩) (by simp) _).setCell (p := ⟨w.heap.size + 1, 0, none⟩) (by simp) _).setCell (p := ⟨w.heap.size + 1, 1, none⟩) (by simp) _).setCell (p := ⟨w.heap.size + 1, 2, none⟩) (by simp) _).drew
set_option maxRecDepth 100000 in
set_option maxHeartbeats 400000 in
theorem snum_arg (t : List UInt8) (p size : Int) (w : World) (h : (p < 0 ∨ (t.length : Int) < p) ∨ (size < 1 ∨ 8 < size)) (hl : t.length ≤ 9223372036854775807) :
  Calls Tryz.prog 126 #[.agg #[.string (bs t), .int .i64 p, .int .i64 0], .int .i64 size] w (RetNS w 0 t p 2) := by
 have HH := Lib.hid h; clear h
 by_cases hst : p < 0 ∨ (t.length : Int) < p
 ·have HS := Lib.hid hst; clear hst
  go_enter Tryz.func126, Tryz.ntmps126
  go_wp2_with fail
  refine (stands_no _ _ _ _ HS.out hl).mono ?_; rintro e w1 ⟨rfl, hb1⟩
  obtain ⟨k0, k1, hb, hz⟩ := two_boxes hb1
  clear hb1
  have c0 := (Blk.c3 k0).1
  have HK := Lib.hid (And.intro k0 (And.intro k1 hb)); clear k0 k1 hb
  go_wp2_with fail
  refine (fails_any _ _ _ _ _).mono ?_; rintro e w2 ⟨rfl, hb2⟩
  have k1 : Blk w2 (w.heap.size + 1) _ _ := Blk.below HK.out.2.1 hb2 (by omega)
  have c1 := Blk.c3 k1
  have hb := HK.out.2.2.trans (hb2.mono (by omega))
  clear c0 hb2 HK
  have HK := Lib.hid (And.intro k1 hb); clear k1 hb
  go_wp2_with fail
  have hB : Blk _ (w.heap.size + 1) 205 #[.string (bs t), .int .i64 p, .int .i64 2] := ((HK.out.1.set 0 (.string (bs t))).set 1 (.int .i64 p)).set 2 (.int .i64 2)
  exact bodyPost_ret (results_tmp_row rfl _ _ (w.heap.size + 1) 205 _ _ rfl hB Tryz.underlying205 rfl infoSc) rfl ⟨rfl, ((HK.out.2.setCell (p := ⟨w.heap.size + 1, 0, none⟩) (by simp) _).setCell (p := ⟨w.heap.size + 1, 1, none⟩) (by simp) _).setCell (p := ⟨w.heap.size + 1, 2, none⟩) (by simp) _⟩
 ·have hst' : 0 ≤ p ∧ p ≤ (t.length : Int) := by omega
  have hsz : size < 1 ∨ 8 < size := by rcases HH.out with h | h
                                       · exact absurd h hst
                                       · exact h
  clear hst
  have HS := Lib.hid hsz; clear hsz
  go_enter Tryz.func126, Tryz.ntmps126
  go_wp2_with fail
  refine (stands_yes _ _ _ _ hst'.1 hst'.2).mono ?_; rintro e w1 ⟨rfl, hb1⟩
  obtain ⟨k0, k1, hb, hz⟩ := two_boxes hb1
  clear hb1
  have c0 := (Blk.c3 k0).1
  have HK := Lib.hid (And.intro k0 (And.intro k1 hb)); clear k0 k1 hb
  go_wp2_with fail
  refine (sized_no _ _ HS.out).mono ?_; rintro e w2 ⟨rfl, rfl⟩
  go_wp2_with fail
  refine (fails_any _ _ _ _ _).mono ?_; rintro e w2 ⟨rfl, hb2⟩
  have k1 : Blk w2 (w.heap.size + 1) _ _ := Blk.below HK.out.2.1 hb2 (by omega)
  have c1 := Blk.c3 k1
  have hb := HK.out.2.2.trans (hb2.mono (by omega))
  clear c0 hb2 HK
  have HK := Lib.hid (And.intro k1 hb); clear k1 hb
  go_wp2_with fail
  have hB : Blk _ (w.heap.size + 1) 205 #[.string (bs t), .int .i64 p, .int .i64 2] := ((HK.out.1.set 0 (.string (bs t))).set 1 (.int .i64 p)).set 2 (.int .i64 2)
  exact bodyPost_ret (results_tmp_row rfl _ _ (w.heap.size + 1) 205 _ _ rfl hB Tryz.underlying205 rfl infoSc) rfl ⟨rfl, ((HK.out.2.setCell (p := ⟨w.heap.size + 1, 0, none⟩) (by simp) _).setCell (p := ⟨w.heap.size + 1, 1, none⟩) (by simp) _).setCell (p := ⟨w.heap.size + 1, 2, none⟩) (by simp) _⟩
set_option maxRecDepth 100000 in
set_option maxHeartbeats 400000 in
theorem snum_short (t : List UInt8) (p size : Int) (w : World) (h0 : 0 ≤ p) (h1 : p ≤ (t.length : Int)) (hs1 : 1 ≤ size) (hs8 : size ≤ 8) (h : (t.length : Int) - p < size) (hl : t.length ≤ 9223372036854775807) :
  Calls Tryz.prog 126 #[.agg #[.string (bs t), .int .i64 p, .int .i64 0], .int .i64 size] w (RetNS w 0 t p 3) := by
 go_enter Tryz.func126, Tryz.ntmps126
 go_wp2_with fail
 refine (stands_yes _ _ _ _ h0 h1).mono ?_; rintro e w1 ⟨rfl, hb1⟩
 obtain ⟨k0, k1, hb, hz⟩ := two_boxes hb1
 clear hb1
 have c0 := (Blk.c3 k0).1
 have HK := Lib.hid (And.intro k0 (And.intro k1 hb)); clear k0 k1 hb
 go_wp2_with fail
 refine (sized_yes _ _ hs1 hs8).mono ?_; rintro e w2 ⟨rfl, rfl⟩
 go_wp2_with fail
 refine (left_any _ _ _ _ h0 h1 hl).mono ?_; rintro e w2 ⟨rfl, hb2⟩
 have k0 : Blk w2 w.heap.size _ _ := Blk.below HK.out.1 hb2 (by omega)
 have k1 : Blk w2 (w.heap.size + 1) _ _ := Blk.below HK.out.2.1 hb2 (by omega)
 have c0' := (Blk.c3 k0).1
 have hb := HK.out.2.2.trans (hb2.mono (by omega))
 have hz2 : w.heap.size + 1 < w2.heap.size := by have := hb2.size; omega
 clear c0 hb2 HK
 have HK := Lib.hid (And.intro k1 hb); clear k0 k1 hb
 go_wp2_with fail
 refine (fails_any _ _ _ _ _).mono ?_; rintro e w3 ⟨rfl, hb3⟩
 have k1 : Blk w3 (w.heap.size + 1) _ _ := Blk.below HK.out.1 hb3 (by omega)
 have c1 := Blk.c3 k1
 have hb := HK.out.2.trans (hb3.mono (by omega))
 clear c0' hb3 HK
 have HK := Lib.hid (And.intro k1 hb); clear k1 hb
 go_wp2_with fail
 have hB : Blk _ (w.heap.size + 1) 205 #[.string (bs t), .int .i64 p, .int .i64 3] := ((HK.out.1.set 0 (.string (bs t))).set 1 (.int .i64 p)).set 2 (.int .i64 3)
 exact bodyPost_ret (results_tmp_row rfl _ _ (w.heap.size + 1) 205 _ _ rfl hB Tryz.underlying205 rfl infoSc) rfl ⟨rfl, ((HK.out.2.setCell (p := ⟨w.heap.size + 1, 0, none⟩) (by simp) _).setCell (p := ⟨w.heap.size + 1, 1, none⟩) (by simp) _).setCell (p := ⟨w.heap.size + 1, 2, none⟩) (by simp) _⟩
theorem snum (s : Quill.Sc) (size : Int) (w : World) (hl : s.text.length ≤ 70368744177664) :
  Calls Tryz.prog 126 #[.agg #[.string (bs s.text), .int .i64 s.pos, .int .i64 s.bad], .int .i64 size] w (RetNS w (s.num size).1 s.text (s.num size).2.pos (s.num size).2.bad) := by
 obtain ⟨t, p, b⟩ := s
 simp only at hl ⊢
 unfold Quill.Sc.num
 by_cases hb : b = 0
 ·subst hb
  simp only [ne_eq, not_true_eq_false, if_false]
  by_cases h1 : Quill.Sc.stands ⟨t, p, 0⟩ = false ∨ size < 1 ∨ 8 < size
  ·rw [if_pos h1]
   refine snum_arg t p size w ?_ (by omega)
   rcases h1 with h1 | h1
   ·left; simp [Quill.Sc.stands] at h1; omega
   ·right; exact h1
  ·rw [if_neg h1]
   have hst : 0 ≤ p ∧ p ≤ (t.length : Int) := by
    have : ¬ Quill.Sc.stands ⟨t, p, 0⟩ = false := fun h => h1 (.inl h)
    simpa [Quill.Sc.stands] using this
   have hsz : 1 ≤ size ∧ size ≤ 8 := by omega
   by_cases h2 : (t.length : Int) - p < size
   ·rw [if_pos h2]
    exact snum_short t p size w hst.1 hst.2 hsz.1 hsz.2 h2 (by omega)
   ·rw [if_neg h2]
    obtain ⟨q, rfl⟩ := Int.eq_ofNat_of_zero_le hst.1
    obtain ⟨z, rfl⟩ := Int.eq_ofNat_of_zero_le (show 0 ≤ size by omega)
    have h := snum_any t q z w (by omega) (by omega) (by omega) hl
    simpa using h
 ·rw [if_pos hb]
  exact snum_bad t p b size w (by simpa using hb)
end Go.Proofs.YtbaedepmogkkeaaGreat
