/- Slices of whatever elements, each of some cells: one that is read, one that the call itself owns; append as a law of the walk over this seat's program; slices of texts. No program's law is stated here. No conditions. -/
import Derived.Test.YtbaedepmogkkeaaGreatSlice
import Derived.Test.YtbaedepmogkkeaaGreatOpen
namespace Go.Proofs.YtbaedepmogkkeaaGreat
set_option linter.unusedSimpArgs false
set_option linter.unusedVariables false
set_option maxRecDepth 100000
open Go.RowKit

/-- The cells vs of n elements of a size are read at the slice that begins at A. -/
def RdV (w : World) (size : Nat) (A : Option Addr) (n : Nat) (vs : List Value) : Prop :=
  vs.length = n * size ∧ (0 < n → ∃ b o, A = some ⟨b, o, none⟩ ∧ ∀ (j : Nat) (u : Value), vs[j]? = some u → w.cell? ⟨b, o + j, none⟩ = some u)
/-- The slice at A of n elements of type e lies in a row of the call's own, from block base on; or it is nil. -/
def OwnV (w : World) (base : Nat) (e : TypeId) (size : Nat) (A : Option Addr) (n c : Nat) (vs : List Value) : Prop :=
  w.ownsRow base e size (.slice A n c) n vs
def catV (l k : List Value) : List Value := l ++ k

section
variable {w w' : World} {A : Option Addr} {n c base B size : Nat} {e : TypeId} {vs : List Value}
theorem RdV.nil_ (w : World) (size : Nat) (A : Option Addr) : RdV w size A 0 [] := ⟨by simp, fun h => absurd h (by omega)⟩
theorem RdV.keep {w1 : World} (h : RdV w size A n vs) (hk : ∀ b o, A = some ⟨b, o, none⟩ → ∀ j u, vs[j]? = some u → w.cell? ⟨b, o + j, none⟩ = some u → w1.cell? ⟨b, o + j, none⟩ = some u) : RdV w1 size A n vs :=
  ⟨h.1, fun hn => by
    obtain ⟨b, o, hA, hc⟩ := h.2 hn
    exact ⟨b, o, hA, fun j u hu => hk b o hA j u hu (hc j u hu)⟩⟩
theorem RdV.below {w1 : World} (h : RdV w size A n vs) (hb : Below w.heap.size w w1) : RdV w1 size A n vs := h.keep fun _ _ _ _ _ _ hc => keep_cell hb hc
theorem RdV.alloc (h : RdV w size A n vs) (o : Obj) : RdV (w.alloc o) size A n vs := h.below ((Below.refl _ _).alloc (Nat.le_refl _) o)
theorem RdV.drewN (h : RdV w size A n vs) (k : Nat) : RdV (w.drewN k) size A n vs := h.below (below_drewN (Below.refl _ _) k)
theorem RdV.one (w : World) (cs : Array Value) (e : TypeId) : RdV (w.alloc (.cells cs e)) cs.size (some ⟨w.heap.size, 0, none⟩) 1 cs.toList :=
  ⟨by simp, fun _ => ⟨_, _, rfl, fun j u hu => by
    rw [Nat.zero_add, (Blk.new w e cs).cell]
    simpa using hu⟩⟩
theorem OwnV.nil_ (w : World) (base : Nat) (e : TypeId) (size : Nat) : OwnV w base e size none 0 0 [] := World.ownsRow_nil w base e size
theorem OwnV.empty (w : World) (base : Nat) (e : TypeId) (size : Nat) (hb : base ≤ w.heap.size) : OwnV (w.alloc (.cells #[] e)) base e size (some ⟨w.heap.size, 0, none⟩) 0 0 [] :=
  ⟨by simp, .inr ⟨w.heap.size, 0, #[], rfl, hb, heap_alloc_new w _, Nat.le_refl _, Nat.zero_le _, by simp, by simp⟩⟩
theorem OwnV.lt (h : OwnV w base e size A n c vs) {a : Addr} (hA : A = some a) : base ≤ a.block ∧ a.block < w.heap.size := by
  subst hA
  exact World.ownsRow.lt h a.block rfl
theorem OwnV.len (h : OwnV w base e size A n c vs) : vs.length = n * size := h.1
theorem OwnV.none_ (h : OwnV w base e size none n c vs) : n = 0 ∧ c = 0 := by
  rcases h.2 with ⟨hv, hn⟩ | ⟨g, cap, cur, hv, _⟩
  · injection hv with _ h1 h2; exact ⟨h1, h2⟩
  · injection hv with h0; cases h0
theorem OwnV.row (h : OwnV w base e size A n c vs) (hn : A ≠ none) : ∃ g cur, A = some ⟨g, 0, none⟩ ∧ base ≤ g ∧ w.heap[g]? = some (.cells cur e (0, 0)) ∧ n ≤ c ∧ c ≤ maxLen ∧ cur.size = c * size ∧ cur.toList.take (n * size) = vs := by
  rcases h.2 with ⟨hv, _⟩ | ⟨g, cap, cur, hv, hb, hg, h1, h2, h3, h4⟩
  · injection hv with h0; exact absurd h0 hn
  · injection hv with h0 _ hc
    subst hc
    exact ⟨g, cur, h0, hb, hg, h1, h2, h3, h4⟩
theorem OwnV.rd (h : OwnV w base e size A n c vs) : RdV w size A n vs := by
  refine ⟨h.1, fun hn => ?_⟩
  rcases h.2 with ⟨hv, h0⟩ | ⟨g, cap, cur, hv, hb, hg, r⟩
  · omega
  · injection hv with hA
    refine ⟨g, 0, hA, fun j u hu => ?_⟩
    have := World.ownsRow.cells h (g := g) (by subst hA; rfl) j u hu
    rwa [addr_add] at this
theorem OwnV.keep (h : OwnV w base e size A n c vs) (hk : ∀ g, A = some ⟨g, 0, none⟩ → w'.heap[g]? = w.heap[g]?) : OwnV w' base e size A n c vs := by
  refine ⟨h.1, ?_⟩
  rcases h.2 with hn | ⟨g, cap, cur, hv, hb, hg, r⟩
  · exact .inl hn
  · refine .inr ⟨g, cap, cur, hv, hb, ?_, r⟩
    injection hv with hA
    rw [hk g hA]; exact hg
theorem OwnV.below {w1 : World} (h : OwnV w base e size A n c vs) (hb : Below B w w1) (hB : w.heap.size ≤ B) : OwnV w1 base e size A n c vs :=
  h.keep fun g hg => hb.block g (by have := (h.lt hg).2; simp at this; omega)
theorem OwnV.alloc (h : OwnV w base e size A n c vs) (o : Obj) : OwnV (w.alloc o) base e size A n c vs := h.below ((Below.refl _ _).alloc (Nat.le_refl _) o) (Nat.le_refl _)
theorem OwnV.drewN (h : OwnV w base e size A n c vs) (k : Nat) : OwnV (w.drewN k) base e size A n c vs := h.below (below_drewN (Below.refl _ _) k) (Nat.le_refl _)
theorem OwnV.low (h : OwnV w base e size A n c vs) {b : Nat} (hb : b ≤ base) : OwnV w b e size A n c vs := by
  refine ⟨h.1, ?_⟩
  rcases h.2 with hn | ⟨g, cap, cur, hv, hbg, r⟩
  · exact .inl hn
  · exact .inr ⟨g, cap, cur, hv, Nat.le_trans hb hbg, r⟩
theorem OwnV.grown {w1 : World} {row : Option Nat} (h : OwnV w base e size A n c vs) (hg : w.grownBy w1 row) (hr : ∀ g, A = some ⟨g, 0, none⟩ → some g ≠ row) : OwnV w1 base e size A n c vs :=
  h.keep fun g hA => hg.block g (by have := (h.lt hA).2; simpa using this) (hr g hA)
theorem grownV_below {w1 : World} (h : OwnV w base e size A n c vs) (hg : w.grownBy w1 (blockOf A)) (hb : base ≤ w.heap.size) : Below base w w1 :=
  (Below.refl base w).grown hg hb fun k hk => by
    cases A with
    | none => cases hk
    | some a => injection hk with hk; subst hk; exact (h.lt rfl).1
theorem sliceV_of_owns {v : Value} (h : w.ownsRow base e size v n vs) : ∃ A c, v = .slice A n c := by
  rcases h.2 with ⟨rfl, rfl⟩ | ⟨g, cap, cur, rfl, _⟩
  · exact ⟨_, _, rfl⟩
  · exact ⟨_, _, rfl⟩
end

section
variable {ops : Array Oper} {rest : List Oper} {o : Oper} {a : Act} {Q : Exit → Act → World → Prop}
/-- append(s, x...), whatever the elements. -/
theorem wpList_appV (w : World) (hgd : o.guard = none) (s x : Operand) (t : TypeId) (ho : o.op = .call { callee := .builtin .append, args := #[s, x], argTypes := #[t, t] })
    (e : TypeId) (z : Value) (size bytes : Nat) (ht : Tryz.prog.underlying t = some (.slice e)) (hinf : (Tryz.prog.info? e).map (fun i => (i.zero, i.size, i.bytes)) = some (some z, size, bytes)) (hzs : z.cells.size = size) (hsz : 0 < size)
    (base : Nat) {A : Option Addr} {n c : Nat} {l : List Value} (hs : a.eval s = .slice A n c) (hown : OwnV w base e size A n c l)
    {X : Option Addr} {m c2 : Nat} {k : List Value} (hx : a.eval x = .slice X m c2) (hr : RdV w size X m k) (h1 : ∀ u ∈ k, u.oneCell' = true) (hlen : (n + m) * bytes ≤ 140737488355328) (h63 : n + m ≤ 9223372036854775807) (hbase : base ≤ w.heap.size)
    (h : ∀ A' c' w', Hid (OwnV w' base e size A' (n + m) c' (catV l k)) → w.grownBy w' (blockOf A) → wpList Tryz.prog ops Q rest (a.put o.dst (.slice A' (n + m) c')) w') : wpList Tryz.prog ops Q (o :: rest) a w := by
  obtain ⟨i, hi, hz0, hz1, hz2⟩ := info_parts hinf
  have h63 : n + m ≤ maxLen := by unfold maxLen; omega
  cases X with
  | none =>
    have hm : m = 0 := by
      rcases Nat.eq_zero_or_pos m with h0 | h0
      · exact h0
      · obtain ⟨_, _, he, _⟩ := hr.2 h0; cases he
    subst hm
    obtain rfl := List.eq_nil_of_length_eq_zero (show k.length = 0 by rw [hr.1, Nat.zero_mul])
    refine wpList_plain hgd fun K hK => ?_
    have hrun := run_append_nil_any (P := Tryz.prog) w base t o.type e i size ht hi (.slice A n c) n l hown c2
    have hw := h A c w (Lib.hid (by simpa [catV] using hown)) ⟨rfl, rfl, rfl, Nat.le_refl _, fun _ _ _ => rfl⟩
    unfold Oper.wp execOp
    simp only [ho, resolve, invoke, builtin, Sem.run_bind, Sem.run_pure, Result.andThen_ok, List.map_toArray, List.map_cons, List.map_nil, hs, hx, hrun]
    exact hK _ _ hw
  | some ad =>
    refine wpList_append_own w hgd s x t ho base e i z size bytes ht hi hz0 hz1 hz2 hzs hsz _ n _ hs hown ad m c2 k hx hr.1 ?_ h1 h63 hlen hbase ?_
    · intro j u hu
      have hj : 0 < m := by
        rcases Nat.eq_zero_or_pos m with h0 | h0
        · subst h0
          have hk := hr.1
          rw [Nat.zero_mul] at hk
          obtain rfl := List.eq_nil_of_length_eq_zero hk
          simp at hu
        · exact h0
      obtain ⟨b, q, hA, hc⟩ := hr.2 hj
      injection hA with hA; subst hA
      rw [addr_add]
      exact hc j u hu
    · intro v' w' hown' hg _
      obtain ⟨A', c', rfl⟩ := sliceV_of_owns hown'
      rw [blockOf_eq] at hg
      exact h A' c' w' (Lib.hid hown') hg
end

/-! ### texts -/
def strV (l : List UInt8) : Value := .string (bs l)
def strsV (L : List (List UInt8)) : List Value := L.map strV
/-- the text at a place; none beyond the end. -/
def tAt (L : List (List UInt8)) (i : Nat) : List UInt8 := L[i]?.getD []
theorem tAt_lt {L : List (List UInt8)} {i : Nat} (h : i < L.length) : tAt L i = L[i] := by unfold tAt; rw [List.getElem?_eq_getElem h]; rfl
theorem strsV_length (L : List (List UInt8)) : (strsV L).length = L.length := by simp [strsV]
theorem strsV_append (a b : List (List UInt8)) : strsV (a ++ b) = strsV a ++ strsV b := by simp [strsV]
theorem strsV_at {L : List (List UInt8)} {j : Nat} (h : j < L.length) : (strsV L)[j]? = some (.string (bs (tAt L j))) := by
  rw [tAt_lt h]; simp [strsV, h, strV]
theorem strsV_one (L : List (List UInt8)) : ∀ u ∈ strsV L, u.oneCell' = true := by
  intro u hu
  obtain ⟨b, _, rfl⟩ := List.mem_map.1 hu
  rfl
theorem take_snocT (L : List (List UInt8)) (k : Nat) (h : k < L.length) : L.take (k + 1) = L.take k ++ [tAt L k] := by
  rw [List.take_succ_eq_append_getElem h, tAt_lt h]
/-- The n texts L are read at the slice that begins at A. -/
def RdT (w : World) (A : Option Addr) (n : Nat) (L : List (List UInt8)) : Prop := L.length = n ∧ RdV w 1 A n (strsV L)
def OwnT (w : World) (base : Nat) (A : Option Addr) (n c : Nat) (L : List (List UInt8)) : Prop := L.length = n ∧ OwnV w base 9 1 A n c (strsV L)
def catT (l k : List (List UInt8)) : List (List UInt8) := l ++ k
section
variable {w w' : World} {A : Option Addr} {n c base B : Nat} {L : List (List UInt8)}
theorem RdT.at_ (h : RdT w A n L) {k : Nat} (hk : k < n) : ∃ b o, A = some ⟨b, o, none⟩ ∧ w.cell? ⟨b, o + k, none⟩ = some (.string (bs (tAt L k))) := by
  obtain ⟨b, o, hA, hc⟩ := h.2.2 (by omega)
  exact ⟨b, o, hA, hc k _ (strsV_at (by rw [h.1]; exact hk))⟩
theorem RdT.below {w1 : World} (h : RdT w A n L) (hb : Below w.heap.size w w1) : RdT w1 A n L := ⟨h.1, h.2.below hb⟩
theorem RdT.alloc (h : RdT w A n L) (o : Obj) : RdT (w.alloc o) A n L := ⟨h.1, h.2.alloc o⟩
theorem RdT.drewN (h : RdT w A n L) (k : Nat) : RdT (w.drewN k) A n L := ⟨h.1, h.2.drewN k⟩
theorem RdT.one (w : World) (l : List UInt8) : RdT (w.alloc (.cells #[.string (bs l)] 9)) (some ⟨w.heap.size, 0, none⟩) 1 [l] := ⟨rfl, RdV.one w #[.string (bs l)] 9⟩
theorem OwnT.nil_ (w : World) (base : Nat) : OwnT w base none 0 0 [] := ⟨rfl, OwnV.nil_ w base _ 1⟩
theorem OwnT.rd (h : OwnT w base A n c L) : RdT w A n L := ⟨h.1, h.2.rd⟩
theorem OwnT.below {w1 : World} (h : OwnT w base A n c L) (hb : Below B w w1) (hB : w.heap.size ≤ B) : OwnT w1 base A n c L := ⟨h.1, h.2.below hb hB⟩
theorem OwnT.alloc (h : OwnT w base A n c L) (o : Obj) : OwnT (w.alloc o) base A n c L := ⟨h.1, h.2.alloc o⟩
theorem OwnT.drewN (h : OwnT w base A n c L) (k : Nat) : OwnT (w.drewN k) base A n c L := ⟨h.1, h.2.drewN k⟩
theorem OwnT.low (h : OwnT w base A n c L) {b : Nat} (hb : b ≤ base) : OwnT w b A n c L := ⟨h.1, h.2.low hb⟩
theorem OwnT.keep (h : OwnT w base A n c L) (hk : ∀ g, A = some ⟨g, 0, none⟩ → w'.heap[g]? = w.heap[g]?) : OwnT w' base A n c L := ⟨h.1, h.2.keep hk⟩
/-- texts that came in. -/
theorem RdT.of_slice {len : Nat} (h : SliceOk w [.str] A len) : ∃ L, RdT w A len L ∧ ∀ l ∈ L, l.length ≤ 9223372036854775807 := by
  rcases h with ⟨rfl, rfl⟩ | ⟨x, rfl, hx⟩
  · exact ⟨[], ⟨rfl, RdV.nil_ _ _ _⟩, by simp⟩
  · have hone : ∀ i, i < len → ∃ l : List UInt8, w.cell? (x.add i) = some (.string (bs l)) ∧ l.length ≤ 9223372036854775807 := by
      intro i hi
      obtain ⟨cs, hcs, hc⟩ := hx i hi
      obtain ⟨v, r, rfl, ⟨l, rfl, hl⟩, _⟩ := hcs.cons_
      have := hc 0 _ rfl
      refine ⟨l, ?_, hl⟩
      simpa using this
    have hL : ∀ m, m ≤ len → ∃ L : List (List UInt8), L.length = m ∧ (∀ i, i < m → w.cell? (x.add i) = some (.string (bs (tAt L i)))) ∧ ∀ l ∈ L, l.length ≤ 9223372036854775807 := by
      intro m
      induction m with
      | zero => intro _; exact ⟨[], rfl, fun i hi => absurd hi (by omega), by simp⟩
      | succ m ih =>
        intro hm
        obtain ⟨L, h1, h2, h3⟩ := ih (by omega)
        obtain ⟨l, hl, hll⟩ := hone m (by omega)
        refine ⟨L ++ [l], by simp [h1], fun i hi => ?_, fun k hk => ?_⟩
        · by_cases e : i = m
          · subst e
            have : tAt (L ++ [l]) i = l := by unfold tAt; rw [← h1]; simp
            rw [this]; exact hl
          · have : tAt (L ++ [l]) i = tAt L i := by unfold tAt; rw [List.getElem?_append_left (by omega)]
            rw [this]; exact h2 i (by omega)
        · rcases List.mem_append.1 hk with h | h
          · exact h3 k h
          · rw [List.mem_singleton.1 h]; exact hll
    obtain ⟨L, h1, h2, h3⟩ := hL len (Nat.le_refl _)
    refine ⟨L, ⟨h1, by rw [strsV_length, h1, Nat.mul_one], fun hn => ?_⟩, h3⟩
    obtain ⟨b, o, sp⟩ := x
    have hs : sp = none := by
      have h0 := h2 0 hn
      simpa [Addr.add] using World.cell?_spot h0
    subst hs
    refine ⟨b, o, rfl, fun j u hu => ?_⟩
    have hj : j < len := by
      rcases Nat.lt_or_ge j len with h | h
      · exact h
      · rw [List.getElem?_eq_none (by rw [strsV_length, h1]; exact h)] at hu; cases hu
    rw [strsV_at (by rw [h1]; exact hj)] at hu
    rw [← hu, ← h2 j hj, addr_add]
end
theorem infoT : (Tryz.prog.info? 9).map (fun i => (i.zero, i.size, i.bytes)) = some (some (.string ⟨#[]⟩), 1, 16) := by kernel_rfl
section
variable {ops : Array Oper} {rest : List Oper} {o : Oper} {a : Act} {Q : Exit → Act → World → Prop}
/-- append(s, x...) of texts. -/
theorem wpList_appT (w : World) (hgd : o.guard = none) (s x : Operand) (ho : o.op = .call { callee := .builtin .append, args := #[s, x], argTypes := #[23, 23] })
    (base : Nat) {A : Option Addr} {n c : Nat} {l : List (List UInt8)} (hs : a.eval s = .slice A n c) (hown : OwnT w base A n c l)
    {X : Option Addr} {m c2 : Nat} {k : List (List UInt8)} (hx : a.eval x = .slice X m c2) (hr : RdT w X m k) (hlen : (n + m) * 16 ≤ 140737488355328) (hbase : base ≤ w.heap.size)
    (h : ∀ A' c' w', Hid (OwnT w' base A' (n + m) c' (catT l k)) → w.grownBy w' (blockOf A) → wpList Tryz.prog ops Q rest (a.put o.dst (.slice A' (n + m) c')) w') : wpList Tryz.prog ops Q (o :: rest) a w := by
  refine wpList_appV w hgd s x 23 ho 9 (.string ⟨#[]⟩) 1 16 Tryz.underlying23 infoT rfl (by decide) base hs hown.2 hx hr.2 (strsV_one k) hlen (by omega) hbase ?_
  intro A' c' w' hown' hg
  exact h A' c' w' (Lib.hid ⟨by rw [catT, List.length_append, hown.1, hr.1], by rw [catT, strsV_append]; exact hown'.out⟩) hg
theorem grownT_below {w w1 : World} {A : Option Addr} {n c base : Nat} {L : List (List UInt8)} (h : OwnT w base A n c L) (hg : w.grownBy w1 (blockOf A)) (hb : base ≤ w.heap.size) : Below base w w1 := grownV_below h.2 hg hb
end
end Go.Proofs.YtbaedepmogkkeaaGreat
