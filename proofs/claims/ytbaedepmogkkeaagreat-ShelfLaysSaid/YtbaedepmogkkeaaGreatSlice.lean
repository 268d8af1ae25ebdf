/- Slices of bytes: one that is read, one that the call itself owns; append, make with copy, and the conversion to a text, as laws of the walk over this seat's program. No program's law is stated here. No conditions. -/
import Derived.Test.YtbaedepmogkkeaaGreatChecked
import Derived.Test.YtbaedepmogkkeaaGreatBytes
import Derived.Lib.AppendStr
import Derived.Laws.AppendOwnNone
import Derived.Laws.CopyOwn
namespace Go.Proofs.YtbaedepmogkkeaaGreat
set_option linter.unusedSimpArgs false
set_option linter.unusedVariables false
set_option maxRecDepth 100000
open Go.RowKit

def byteV (b : UInt8) : Value := .int .u8 (b.toNat : Int)
def bytesV (l : List UInt8) : List Value := l.map byteV
theorem bytesV_length (l : List UInt8) : (bytesV l).length = l.length := by simp [bytesV]
theorem bytesV_append (a b : List UInt8) : bytesV (a ++ b) = bytesV a ++ bytesV b := by simp [bytesV]
theorem bytesV_at {l : List UInt8} {j : Nat} (h : j < l.length) : (bytesV l)[j]? = some (byteV (byteAt l j)) := by
  rw [byteAt_lt h]; simp [bytesV, h]
theorem bytesV_one (l : List UInt8) : ∀ u ∈ bytesV l, u.oneCell' = true := by
  intro u hu
  obtain ⟨b, _, rfl⟩ := List.mem_map.1 hu
  rfl

/-- The n bytes l are read at the slice that begins at A. -/
def RdB (w : World) (A : Option Addr) (n : Nat) (l : List UInt8) : Prop :=
  l.length = n ∧ (0 < n → ∃ ad, A = some ad ∧ ∀ j, j < n → w.cell? (ad.add j) = some (byteV (byteAt l j)))
/-- The slice of n bytes l, with room for c, at A lies in a row of the call's own, from block base on; or it is nil. -/
def OwnB (w : World) (base : Nat) (A : Option Addr) (n c : Nat) (l : List UInt8) : Prop :=
  l.length = n ∧ w.ownsRow base 5 1 (.slice A n c) n (bytesV l)

/-- one list behind another; the first of one list over those of another one (names that the walk's simp does not open). -/
def cat (l k : List UInt8) : List UInt8 := l ++ k
def over (k l : List UInt8) (n m : Nat) : List UInt8 := k.take n ++ l.drop m
section
variable {w w' : World} {A : Option Addr} {n c base B : Nat} {l : List UInt8}
theorem RdB.nil_ (w : World) (A : Option Addr) : RdB w A 0 [] := ⟨rfl, fun h => absurd h (by omega)⟩
theorem RdB.one (w : World) (b : UInt8) : RdB (w.alloc (.cells #[.int .u8 (b.toNat : Int)] 5)) (some ⟨w.heap.size, 0, none⟩) 1 [b] :=
  ⟨rfl, fun _ => ⟨_, rfl, fun j hj => by
    obtain rfl : j = 0 := by omega
    rw [addr_add, (Blk.new w 5 #[.int .u8 (b.toNat : Int)]).cell]; rfl⟩⟩
theorem RdB.below {w1 : World} (h : RdB w A n l) (hb : Below w.heap.size w w1) : RdB w1 A n l :=
  ⟨h.1, fun hn => by
    obtain ⟨ad, hA, hc⟩ := h.2 hn
    exact ⟨ad, hA, fun j hj => keep_cell hb (hc j hj)⟩⟩
theorem RdB.alloc (h : RdB w A n l) (o : Obj) : RdB (w.alloc o) A n l := h.below ((Below.refl _ _).alloc (Nat.le_refl _) o)
theorem RdB.drewN (h : RdB w A n l) (k : Nat) : RdB (w.drewN k) A n l := h.below (below_drewN (Below.refl _ _) k)
theorem OwnB.nil_ (w : World) (base : Nat) : OwnB w base none 0 0 [] := ⟨rfl, World.ownsRow_nil w base 5 1⟩
theorem OwnB.empty (w : World) (base : Nat) (hb : base ≤ w.heap.size) : OwnB (w.alloc (.cells #[] 5)) base (some ⟨w.heap.size, 0, none⟩) 0 0 [] :=
  ⟨rfl, rfl, .inr ⟨w.heap.size, 0, #[], rfl, hb, heap_alloc_new w _, Nat.le_refl _, Nat.zero_le _, rfl, rfl⟩⟩
theorem OwnB.lt (h : OwnB w base A n c l) {a : Addr} (hA : A = some a) : base ≤ a.block ∧ a.block < w.heap.size := by
  subst hA
  exact h.2.lt a.block rfl
theorem OwnB.cap_ (h : OwnB w base A n c l) : n ≤ c := by
  rcases h.2.2 with ⟨hv, hn⟩ | ⟨g, cap, cur, hv, _, _, hn, _⟩
  · injection hv with _ h1 h2; omega
  · injection hv with _ h1 h2; omega
theorem OwnB.row (h : OwnB w base A n c l) (hn : A ≠ none) : ∃ g cur, A = some ⟨g, 0, none⟩ ∧ base ≤ g ∧ w.heap[g]? = some (.cells cur 5 (0, 0)) ∧ n ≤ c ∧ c ≤ maxLen ∧ cur.size = c ∧ cur.toList.take n = bytesV l := by
  rcases h.2.2 with ⟨hv, _⟩ | ⟨g, cap, cur, hv, hb, hg, h1, h2, h3, h4⟩
  · injection hv with h0; exact absurd h0 hn
  · injection hv with h0 _ hc
    subst hc
    exact ⟨g, cur, h0, hb, hg, h1, h2, by simpa using h3, by simpa using h4⟩
theorem OwnB.rd (h : OwnB w base A n c l) : RdB w A n l := by
  refine ⟨h.1, fun hn => ?_⟩
  rcases h.2.2 with ⟨hv, h0⟩ | ⟨g, cap, cur, hv, _, _⟩
  · omega
  · injection hv with hA
    refine ⟨⟨g, 0, none⟩, hA, fun j hj => ?_⟩
    exact h.2.cells (g := g) (by subst hA; rfl) j _ (bytesV_at (by rw [h.1]; exact hj))
theorem OwnB.keep (h : OwnB w base A n c l) (hk : ∀ g, A = some ⟨g, 0, none⟩ → w'.heap[g]? = w.heap[g]?) : OwnB w' base A n c l := by
  refine ⟨h.1, h.2.1, ?_⟩
  rcases h.2.2 with hn | ⟨g, cap, cur, hv, hb, hg, r⟩
  · exact .inl hn
  · refine .inr ⟨g, cap, cur, hv, hb, ?_, r⟩
    injection hv with hA
    rw [hk g hA]; exact hg
theorem OwnB.below {w1 : World} (h : OwnB w base A n c l) (hb : Below B w w1) (hB : w.heap.size ≤ B) : OwnB w1 base A n c l :=
  h.keep fun g hg => hb.block g (by have := (h.lt hg).2; simp at this; omega)
theorem OwnB.alloc (h : OwnB w base A n c l) (o : Obj) : OwnB (w.alloc o) base A n c l := h.below ((Below.refl _ _).alloc (Nat.le_refl _) o) (Nat.le_refl _)
theorem OwnB.grown {w1 : World} {row : Option Nat} (h : OwnB w base A n c l) (hg : w.grownBy w1 row) (hr : ∀ g, A = some ⟨g, 0, none⟩ → some g ≠ row) : OwnB w1 base A n c l :=
  h.keep fun g hA => hg.block g (by have := (h.lt hA).2; simpa using this) (hr g hA)
theorem OwnB.low (h : OwnB w base A n c l) {b : Nat} (hb : b ≤ base) : OwnB w b A n c l := by
  refine ⟨h.1, h.2.1, ?_⟩
  rcases h.2.2 with hn | ⟨g, cap, cur, hv, hbg, r⟩
  · exact .inl hn
  · exact .inr ⟨g, cap, cur, hv, Nat.le_trans hb hbg, r⟩
/-- what is appended to turns this row alone. -/
def blockOf (A : Option Addr) : Option Nat := A.map (·.block)
theorem grown_below {w1 : World} (h : OwnB w base A n c l) (hg : w.grownBy w1 (blockOf A)) (hb : base ≤ w.heap.size) : Below base w w1 :=
  (Below.refl base w).grown hg hb fun k hk => by
    cases A with
    | none => cases hk
    | some a => injection hk with hk; subst hk; exact (h.lt rfl).1

theorem run_string_B (src dst : TypeId) (h : RdB w A n l) (hs : Tryz.prog.underlying src = some (.slice 5)) (hd : Tryz.prog.underlying dst = some .string) (c : Nat) :
    (convert src dst (.slice A n c)).run Tryz.prog w = .ok (.string (bs l)) w := by
  cases A with
  | none =>
    have hn : n = 0 := by
      rcases Nat.eq_zero_or_pos n with h0 | h0
      · exact h0
      · obtain ⟨_, he, _⟩ := h.2 h0; cases he
    subst hn
    obtain rfl := List.eq_nil_of_length_eq_zero h.1
    exact run_convert_bytes_nil w src 5 hs Tryz.underlying5 0 c dst hd
  | some a =>
    have e := run_convert_bs (P := Tryz.prog) w src dst 5 a c l hs Tryz.underlying5 hd fun j hj => by
      obtain ⟨ad, hA, hc⟩ := h.2 (by have := h.1; omega)
      injection hA with hA
      subst hA
      rw [hc j (by have := h.1; omega), byteAt_lt hj]; rfl
    rwa [h.1] at e
end

theorem infoB : (Tryz.prog.info? 5).map (fun i => (i.zero, i.size, i.bytes)) = some (some (.int .u8 0), 1, 1) := by kernel_rfl

section
variable {ops : Array Oper} {rest : List Oper} {o : Oper} {a : Act} {Q : Exit → Act → World → Prop}
theorem blockOf_eq (A : Option Addr) (n c : Nat) : (Value.slice A n c).ownBlock = blockOf A := by cases A <;> rfl
theorem slice_of_owns {w : World} {base n : Nat} {v : Value} {xs : List Value} (h : w.ownsRow base 5 1 v n xs) : ∃ A c, v = .slice A n c := by
  rcases h.2 with ⟨rfl, rfl⟩ | ⟨g, cap, cur, rfl, _⟩
  · exact ⟨_, _, rfl⟩
  · exact ⟨_, _, rfl⟩
theorem run_append_nil_any {P : Program} (w : World) (base : Nat) (t ty e : TypeId) (i : TypeInfo) (size : Nat) (ht : P.underlying t = some (.slice e)) (hi : P.info? e = some i)
    (v : Value) (n : Nat) (xs : List Value) (hown : w.ownsRow base e size v n xs) (c : Nat) : (Builtin.append_ #[t, t] ty #[v, .slice none 0 c]).run P w = .ok v w := by
  rcases hown.2 with ⟨rfl, rfl⟩ | ⟨g, cap, cur, rfl, _, _, hnc, _⟩
  · simp [Builtin.append_, run_underlying ht, sizeOf, typeInfo, hi, Builtin.lenOf, Builtin.firstCells]
  · simp [Builtin.append_, run_underlying ht, sizeOf, typeInfo, hi, Builtin.lenOf, Builtin.firstCells, hnc, storeCells]
/-- append(s, x...) of bytes. -/
theorem wpList_appB (w : World) (hgd : o.guard = none) (s x : Operand) (ho : o.op = .call { callee := .builtin .append, args := #[s, x], argTypes := #[75, 75] })
    (base : Nat) {A : Option Addr} {n c : Nat} {l : List UInt8} (hs : a.eval s = .slice A n c) (hown : OwnB w base A n c l)
    {X : Option Addr} {m c2 : Nat} {k : List UInt8} (hx : a.eval x = .slice X m c2) (hr : RdB w X m k) (hlen : n + m ≤ 140737488355328) (hbase : base ≤ w.heap.size)
    (h : ∀ A' c' w', Hid (OwnB w' base A' (n + m) c' (cat l k)) → w.grownBy w' (blockOf A) → wpList Tryz.prog ops Q rest (a.put o.dst (.slice A' (n + m) c')) w') : wpList Tryz.prog ops Q (o :: rest) a w := by
  obtain ⟨i, hi, hz0, hz1, hz2⟩ := info_parts infoB
  have h63 : n + m ≤ maxLen := by unfold maxLen; omega
  cases X with
  | none =>
    have hm : m = 0 := by
      rcases Nat.eq_zero_or_pos m with h0 | h0
      · exact h0
      · obtain ⟨_, he, _⟩ := hr.2 h0; cases he
    subst hm
    obtain rfl := List.eq_nil_of_length_eq_zero hr.1
    refine wpList_plain hgd fun K hK => ?_
    have hrun := run_append_nil_any (P := Tryz.prog) w base 75 o.type 5 i 1 Tryz.underlying75 hi (.slice A n c) n (bytesV l) hown.2 c2
    have hw := h A c w (Lib.hid (by simpa [cat] using hown)) ⟨rfl, rfl, rfl, Nat.le_refl _, fun _ _ _ => rfl⟩
    unfold Oper.wp execOp
    simp only [ho, resolve, invoke, builtin, Sem.run_bind, Sem.run_pure, Result.andThen_ok, List.map_toArray, List.map_cons, List.map_nil, hs, hx, hrun]
    exact hK _ _ hw
  | some ad =>
    refine wpList_append_own w hgd s x 75 ho base 5 i (.int .u8 0) 1 1 Tryz.underlying75 hi hz0 hz1 hz2 rfl (by decide) _ n _ hs hown.2 ad m c2 (bytesV k) hx (by rw [bytesV_length, hr.1, Nat.mul_one]) ?_ (bytesV_one k) h63 (by omega) hbase ?_
    · intro j u hu
      have hj : j < m := by
        rcases Nat.lt_or_ge j m with h0 | h0
        · exact h0
        · rw [List.getElem?_eq_none (by rw [bytesV_length, hr.1]; exact h0)] at hu; cases hu
      obtain ⟨ad', hA, hc⟩ := hr.2 (by omega)
      injection hA with hA; subst hA
      rw [bytesV_at (by rw [hr.1]; exact hj)] at hu
      rw [← hu]; exact hc j hj
    · intro v' w' hown' hg _
      obtain ⟨A', c', rfl⟩ := slice_of_owns hown'
      rw [blockOf_eq] at hg
      exact h A' c' w' (Lib.hid ⟨by rw [cat, List.length_append, hown.1, hr.1], by rw [cat, bytesV_append]; exact hown'⟩) hg
/-- append(s, t...) of a text's bytes. -/
theorem wpList_appS (w : World) (hgd : o.guard = none) (s x : Operand) (ho : o.op = .call { callee := .builtin .append, args := #[s, x], argTypes := #[75, 9] })
    (base : Nat) {A : Option Addr} {n c : Nat} {l : List UInt8} (hs : a.eval s = .slice A n c) (hown : OwnB w base A n c l)
    {k : List UInt8} (hx : a.eval x = .string (bs k)) (hlen : n + k.length ≤ 140737488355328) (hbase : base ≤ w.heap.size)
    (h : ∀ A' c' w', Hid (OwnB w' base A' (n + k.length) c' (cat l k)) → w.grownBy w' (blockOf A) → wpList Tryz.prog ops Q rest (a.put o.dst (.slice A' (n + k.length) c')) w') : wpList Tryz.prog ops Q (o :: rest) a w := by
  obtain ⟨i, hi, hz0, hz1, hz2⟩ := info_parts infoB
  refine Lib.wpList_append_own_string w hgd s x 75 9 ho base 5 i Tryz.underlying75 Tryz.underlying9 hi hz0 hz1 hz2 _ n _ hs hown.2 (bs k) hx (by rw [bs_size]; unfold maxLen; omega) (by rw [bs_size]; exact hlen) hbase ?_
  intro v' w' hown' hg _
  rw [bs_size] at hown'
  obtain ⟨A', c', rfl⟩ := slice_of_owns hown'
  rw [blockOf_eq] at hg
  have e : Lib.strCells (bs k) = bytesV k := by simp [Lib.strCells, bytesV, byteV]
  exact h A' c' w' (Lib.hid ⟨by rw [cat, List.length_append, hown.1], by rw [cat, bytesV_append, ← e]; exact hown'⟩) hg
theorem madeB (n : Nat) : (madeCells (Value.int .u8 0).cells n).toList = bytesV (List.replicate n 0) := by
  apply List.ext_getElem?
  intro i
  by_cases hi : i < n
  · simp [madeCells, bytesV, byteV, hi, Value.cells, Nat.mod_one]
  · rw [List.getElem?_eq_none (by simp [madeCells]; omega), List.getElem?_eq_none (by simp [bytesV]; omega)]
/-- make([]byte, n, c). -/
theorem wpList_makeB (w : World) (hgd : o.guard = none) (x y : Operand) (ho : o.op = Op.makeSlice 75 x y) (base n c : Nat) {N C : Int} (hx : a.eval x = .int .i64 N) (hy : a.eval y = .int .i64 C)
    (hN : N = (n : Int)) (hC : C = (c : Int)) (hnc : n ≤ c) (hlen : c ≤ 140737488355328) (hbase : base ≤ w.heap.size)
    (h : ∀ w', Hid (OwnB w' base (some ⟨w.heap.size, 0, none⟩) n c (List.replicate n 0)) → Below w.heap.size w w' → w'.heap.size = w.heap.size + 1 → wpList Tryz.prog ops Q rest (a.put o.dst (.slice (some ⟨w.heap.size, 0, none⟩) n c)) w') : wpList Tryz.prog ops Q (o :: rest) a w := by
  obtain ⟨i, hi, hz0, hz1, hz2⟩ := info_parts infoB
  subst hN hC
  refine wpList_plain hgd fun K hK => ?_
  have hrun := run_make (P := Tryz.prog) w 75 5 i (.int .u8 0) Tryz.underlying75 hi hz0 .i64 .i64 (n : Int) (c : Int) (by omega) (by omega) (by rw [hz2]; omega) (by omega)
  rw [Int.toNat_natCast, Int.toNat_natCast, hz1, Nat.mul_one] at hrun
  have hw := h (w.alloc (.cells (madeCells (Value.int .u8 0).cells c) 5)) (Lib.hid ⟨List.length_replicate, by rw [bytesV_length, List.length_replicate, Nat.mul_one], .inr ⟨w.heap.size, c, _, rfl, hbase, heap_alloc_new w _, hnc, by unfold maxLen; omega, by rw [size_madeCells, Nat.mul_one], by
    rw [madeB, Nat.mul_one, bytesV, bytesV, ← List.map_take, List.take_replicate, Nat.min_eq_left hnc]⟩⟩) ((Below.refl _ _).alloc (Nat.le_refl _) _) (by simp)
  unfold Oper.wp execOp
  simp only [ho, hx, hy, Sem.run_bind, Sem.run_pure, Result.andThen_ok, hrun]
  exact hK _ _ hw
/-- copy(d, s) of bytes, d in a row of the call's own. -/
theorem wpList_copyB (w : World) (hgd : o.guard = none) (d s : Operand) (ho : o.op = .call { callee := .builtin .copy, args := #[d, s], argTypes := #[75, 75] })
    (base : Nat) {D : Option Addr} {n c : Nat} {l : List UInt8} (hd : a.eval d = .slice D n c) (hown : OwnB w base D n c l)
    {X : Option Addr} {m c2 : Nat} {k : List UInt8} (hs : a.eval s = .slice X m c2) (hr : RdB w X m k) (hD : D ≠ none)
    (h : ∀ w', Hid (OwnB w' base D n c (over k l n m)) → Below base w w' → wpList Tryz.prog ops Q rest (a.put o.dst (goInt (min m n : Nat))) w') : wpList Tryz.prog ops Q (o :: rest) a w := by
  obtain ⟨i, hi, hz0, hz1, hz2⟩ := info_parts infoB
  obtain ⟨g, cur, hA, hbg, hg, hnc, hcm, hcs, htk⟩ := hown.row hD
  have hkl := hr.1
  have hll := hown.1
  have hcl : (bytesV (k.take n)).length = Nat.min m n := by
    rw [bytesV_length, List.length_take, hkl]; exact Nat.min_comm _ _
  have hmin : Nat.min m n ≤ n := Nat.min_le_right _ _
  have hmin2 : Nat.min m n ≤ m := Nat.min_le_left _ _
  refine wpList_copy_splice hgd d s 75 75 ho 5 Tryz.underlying75 (by rw [hi]; simp [hz1]) D X n c m c2 hd hs g 0 cur.toList 5 (by simpa using hg) (bytesV (k.take n)) hcl ?_ ?_ (bytesV_one _) base w (Below.refl _ _) hbg ?_
  · intro hpos
    rw [hcl] at hpos
    obtain ⟨ad, hX, hc⟩ := hr.2 (by omega)
    refine ⟨hA, ad, hX, fun j u hu => ?_⟩
    have hj : j < Nat.min m n := by
      rcases Nat.lt_or_ge j (Nat.min m n) with h0 | h0
      · exact h0
      · rw [List.getElem?_eq_none (by omega)] at hu; cases hu
    rw [bytesV_at (by rw [List.length_take, hkl]; rw [Nat.min_comm]; exact hj)] at hu
    rw [← hu, hc j (by omega)]
    have e : byteAt (k.take n) j = byteAt k j := by unfold byteAt; rw [List.getElem?_take_of_lt (by omega)]
    rw [e]
  · rw [hcl]; simp; omega
  · intro w' hg' hb'
    rw [hcl]
    have hg2 := hg'.out
    refine h w' (show OwnB w' base D n c (k.take n ++ l.drop m) from ⟨?_, ?_, .inr ⟨g, c, _, by rw [hA], hbg, hg2, hnc, hcm, ?_, ?_⟩⟩) hb'
    · rw [List.length_append, List.length_take, List.length_drop, hkl, hll]; omega
    · rw [bytesV_length, List.length_append, List.length_take, List.length_drop, hkl, hll, Nat.mul_one]; omega
    · rw [List.size_toArray, length_splice _ _ _ (by rw [hcl]; simp; omega)]; simp [hcs]
    · rw [Nat.mul_one]
      unfold splice
      rw [List.take_zero, List.nil_append, Nat.zero_add, bytesV_append]
      have e1 : (bytesV (k.take n)).length ≤ n := by omega
      rw [List.take_append, List.take_of_length_le e1]
      congr 1
      rw [List.take_drop, show (bytesV (k.take n)).length + (n - (bytesV (k.take n)).length) = n by omega, htk, hcl]
      rw [bytesV, ← List.map_drop]
      rcases Nat.le_total m n with hmn | hmn
      · rw [show Nat.min m n = m from Nat.min_eq_left hmn]; rfl
      · rw [show Nat.min m n = n from Nat.min_eq_right hmn, List.drop_eq_nil_of_le (by omega), List.drop_eq_nil_of_le (by omega)]; rfl
end
end Go.Proofs.YtbaedepmogkkeaaGreat
