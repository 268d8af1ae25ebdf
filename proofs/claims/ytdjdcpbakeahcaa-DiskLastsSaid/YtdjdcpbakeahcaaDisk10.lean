/- disk: what is done with a device, one thing after the other: plain, and walked. No conditions but that lengths are what memory holds. -/
import Derived.Test.YtdjdcpbakeahcaaDisk6
import Derived.Test.YtdjdcpbakeahcaaDisk9
namespace Go.Proofs.Ytdjdcpbakeahcaa.Av
open Go Go.RowKit
set_option linter.unusedVariables false
set_option linter.unusedSimpArgs false
set_option maxRecDepth 100000
set_option maxHeartbeats 1000000

/-- what is done -/
structure DOp where
  kind : Nat
  n : Int
  s : Key
  odd : Bool
  plan : Plan
def DOp.ok (o : DOp) : Prop := o.plan.keep < 18446744073709551616
abbrev dopL (o : DOp) : List Value := [.int .u8 o.kind, .int .i64 o.n, .string (bs o.s), .bool o.odd, .int .u64 o.plan.keep, .int .i64 o.plan.torn, .int .i64 o.plan.cut]
def dopC (l : List DOp) : List AV := l.flatMap fun o => (dopL o).map .ex
/-- the text that is written -/
def textD (o : DOp) : Key := if o.odd = true then o.s else fullK o.s
theorem text_raw (k : Nat) (n : Int) (s : Key) (b : Bool) (u : Nat) (t c : Int) (X : Key) (hX : X = fullK s) : SP 69 [.ex (.agg #[.int .u8 k, .int .i64 n, .string (bs s), .bool b, .int .u64 u, .int .i64 t, .int .i64 c])] (T (if b = true then s else X)) := by
  have cf := full_ok s
  rw [← hX] at cf
  cases b with
  | true =>
    rw [if_pos rfl]
    refine S_ Try.func69 (by kernel_rfl) rfl (Nat.le_of_ble_eq_true rfl) ?_
    show avc Try.prog SP _ _ _ _ _ _
    dsimp only [avc, startS, Array.toList, Try.f69]
    repeat' ((try conv => whnf) <;> (first | (refine Hold.mk ?_) | (refine And.intro (fun _ => ?_) (fun h => Bool.noConfusion h)) | (refine And.intro (fun h => Bool.noConfusion h) (fun _ => ?_)) | (refine And.intro (Nat.le_of_ble_eq_true rfl) ?_) | (refine And.intro (fun _ => ?_) (fun h => Bool.noConfusion ((beq_self_eq_true _).symm.trans h))) | (refine And.intro (fun h => Bool.noConfusion ((bne_self_eq_false _).symm.trans h)) (fun _ => ?_)) | (refine And.intro (fun h => Bool.noConfusion ((beq_self_eq_true _).symm.trans h)) (fun _ => ?_)) | (refine And.intro (fun _ => ?_) (fun h => Bool.noConfusion ((bne_self_eq_false _).symm.trans h))) | (refine And.intro (show inR _ from ⟨by omega, by omega⟩) ?_) | (exact True.intro) | (refine And.intro (show eqT _ _ = true by kernel_rfl) ?_) | (refine And.intro rfl ?_) | (refine And.intro (And.intro (Nat.le_of_ble_eq_true rfl) rfl) ?_) | (refine And.intro (And.intro rfl rfl) ?_) | (refine And.intro (And.intro rfl (And.intro rfl rfl)) ?_) | (exact And.intro rfl (And.intro rfl rfl)) | (exact And.intro rfl rfl) | (refine br_lt ?_ ?_ <;> intro hBr <;> (first | (exfalso; omega) | (exfalso; contradiction) | (exfalso; exact hBr rfl) | skip)) | (refine br_lt_ ?_ ?_ <;> intro hBr <;> (first | (exfalso; omega) | (exfalso; contradiction) | (exfalso; exact hBr rfl) | skip)) | (refine br_le ?_ ?_ <;> intro hBr <;> (first | (exfalso; omega) | (exfalso; contradiction) | (exfalso; exact hBr rfl) | skip)) | (refine br_le_ ?_ ?_ <;> intro hBr <;> (first | (exfalso; omega) | (exfalso; contradiction) | (exfalso; exact hBr rfl) | skip)) | (refine br_eq ?_ ?_ <;> intro hBr <;> (first | (exfalso; omega) | (exfalso; contradiction) | (exfalso; exact hBr rfl) | skip)) | (refine br_eq_ ?_ ?_ <;> intro hBr <;> (first | (exfalso; omega) | (exfalso; contradiction) | (exfalso; exact hBr rfl) | skip)) | (refine br_seq ?_ ?_ <;> intro hBr <;> (first | (exfalso; omega) | (exfalso; contradiction) | (exfalso; exact hBr rfl) | skip)) | (refine br_seq_ ?_ ?_ <;> intro hBr <;> (first | (exfalso; omega) | (exfalso; contradiction) | (exfalso; exact hBr rfl) | skip)) | (refine br_not ?_) | (refine br_not_ ?_) | (refine br_and ?_) | (refine br_and_ ?_) | (refine And.intro (by omega) ?_) | (refine ⟨_, wrap_i64 (by omega), ?_⟩) | (refine ⟨_, wrap_u64 (by omega) (by omega), ?_⟩) | (refine ⟨_, wrap_u8 (by omega) (by omega), ?_⟩) | (refine ⟨_, wrap_u32 (by omega) (by omega), ?_⟩) | (refine ⟨_, wrap_u16 (by omega) (by omega), ?_⟩) | (refine ⟨_, rfl, ?_⟩) | (exact rfl)))
  | false =>
    rw [if_neg (by decide)]
    refine S_ Try.func69 (by kernel_rfl) rfl (Nat.le_of_ble_eq_true rfl) ?_
    show avc Try.prog SP _ _ _ _ _ _
    dsimp only [avc, startS, Array.toList, Try.f69]
    repeat' ((try conv => whnf) <;> (first | (refine Hold.mk ?_) | (refine And.intro (fun _ => ?_) (fun h => Bool.noConfusion h)) | (refine And.intro (fun h => Bool.noConfusion h) (fun _ => ?_)) | (refine And.intro (Nat.le_of_ble_eq_true rfl) ?_) | (refine And.intro (fun _ => ?_) (fun h => Bool.noConfusion ((beq_self_eq_true _).symm.trans h))) | (refine And.intro (fun h => Bool.noConfusion ((bne_self_eq_false _).symm.trans h)) (fun _ => ?_)) | (refine And.intro (fun h => Bool.noConfusion ((beq_self_eq_true _).symm.trans h)) (fun _ => ?_)) | (refine And.intro (fun _ => ?_) (fun h => Bool.noConfusion ((bne_self_eq_false _).symm.trans h))) | (refine And.intro (show inR _ from ⟨by omega, by omega⟩) ?_) | (refine ⟨_, cf, ?_⟩) | (exact True.intro) | (refine And.intro (show eqT _ _ = true by kernel_rfl) ?_) | (refine And.intro rfl ?_) | (refine And.intro (And.intro (Nat.le_of_ble_eq_true rfl) rfl) ?_) | (refine And.intro (And.intro rfl rfl) ?_) | (refine And.intro (And.intro rfl (And.intro rfl rfl)) ?_) | (exact And.intro rfl (And.intro rfl rfl)) | (exact And.intro rfl rfl) | (refine br_lt ?_ ?_ <;> intro hBr <;> (first | (exfalso; omega) | (exfalso; contradiction) | (exfalso; exact hBr rfl) | skip)) | (refine br_lt_ ?_ ?_ <;> intro hBr <;> (first | (exfalso; omega) | (exfalso; contradiction) | (exfalso; exact hBr rfl) | skip)) | (refine br_le ?_ ?_ <;> intro hBr <;> (first | (exfalso; omega) | (exfalso; contradiction) | (exfalso; exact hBr rfl) | skip)) | (refine br_le_ ?_ ?_ <;> intro hBr <;> (first | (exfalso; omega) | (exfalso; contradiction) | (exfalso; exact hBr rfl) | skip)) | (refine br_eq ?_ ?_ <;> intro hBr <;> (first | (exfalso; omega) | (exfalso; contradiction) | (exfalso; exact hBr rfl) | skip)) | (refine br_eq_ ?_ ?_ <;> intro hBr <;> (first | (exfalso; omega) | (exfalso; contradiction) | (exfalso; exact hBr rfl) | skip)) | (refine br_seq ?_ ?_ <;> intro hBr <;> (first | (exfalso; omega) | (exfalso; contradiction) | (exfalso; exact hBr rfl) | skip)) | (refine br_seq_ ?_ ?_ <;> intro hBr <;> (first | (exfalso; omega) | (exfalso; contradiction) | (exfalso; exact hBr rfl) | skip)) | (refine br_not ?_) | (refine br_not_ ?_) | (refine br_and ?_) | (refine br_and_ ?_) | (refine And.intro (by omega) ?_) | (refine ⟨_, wrap_i64 (by omega), ?_⟩) | (refine ⟨_, wrap_u64 (by omega) (by omega), ?_⟩) | (refine ⟨_, wrap_u8 (by omega) (by omega), ?_⟩) | (refine ⟨_, wrap_u32 (by omega) (by omega), ?_⟩) | (refine ⟨_, wrap_u16 (by omega) (by omega), ?_⟩) | (refine ⟨_, rfl, ?_⟩) | (exact rfl)))
theorem text_ok (o : DOp) : SP 69 [.ex (.agg (dopL o).toArray)] (T (textD o)) := text_raw o.kind o.n o.s o.odd o.plan.keep o.plan.torn o.plan.cut _ rfl
theorem hsO : sizeT Try.prog 57 = 7 := by kernel_rfl
theorem dopW {l : List DOp} {i : Nat} (h : i < l.length) : ∀ k v, ((dopL l[i]).map AV.ex)[k]? = some v → (dopC l)[i * 7 + k]? = some v := by
  induction l generalizing i with
  | nil => simp at h
  | cons x l ih =>
    intro k v hv
    have hk : k < 7 := by
      apply Classical.byContradiction
      intro hn
      rw [List.getElem?_eq_none (by show 7 ≤ k; omega)] at hv; cases hv
    show ((dopL x).map AV.ex ++ dopC l)[i * 7 + k]? = _
    cases i with
    | zero =>
      rw [List.getElem?_append_left (by show 0 * 7 + k < 7; omega), Nat.zero_mul, Nat.zero_add]
      exact hv
    | succ i =>
      rw [List.getElem?_append_right (by show 7 ≤ (i + 1) * 7 + k; omega)]
      rw [← ih (i := i) (by simpa using h) k v hv]
      congr 1
      show (i + 1) * 7 + k - 7 = _; omega
theorem dopA {l : List DOp} {i : Nat} (h : i < l.length) : ((dopL l[i]).map AV.ex).length = sizeT Try.prog 57 ∧ ∀ k v, ((dopL l[i]).map AV.ex)[k]? = some v → (dopC l)[mulS (i : Int).toNat (sizeT Try.prog 57) + k]? = some v := by
  rw [hsO, mulS_eq, Int.toNat_natCast]; exact ⟨rfl, dopW h⟩
theorem dop2 {l : List DOp} {i : Nat} (h : i < l.length) : (dopC l)[mulS (i : Int).toNat (sizeT Try.prog 57) + 2]? = some (T l[i].s) := (dopA h).2 2 _ rfl
/-- are there too many, or do they write too much? -/
def OkOver (l : List DOp) (most : Nat) : Prop := l.length ≤ most ∧ ∀ o ∈ l, o.s.length ≤ 100
theorem over_yes {l : List DOp} {most : Nat} (h : ¬ OkOver l most) (hl : l.length ≤ 9223372036854775807) : ∃ e : Int, 0 < e ∧ SP 14 [.vs l.length (dopC l), Z most] (Z e) := by
  refine ⟨1, by decide, ?_⟩
  by_cases h1 : l.length ≤ most
  · obtain ⟨k, hk, hk2⟩ : ∃ k, ∃ h : k < l.length, 100 < l[k].s.length := by
      apply Classical.byContradiction
      intro hn
      refine h ⟨h1, fun o ho => ?_⟩
      obtain ⟨k, hk, rfl⟩ := List.getElem_of_mem ho
      apply Classical.byContradiction
      intro h2
      exact hn ⟨k, hk, by omega⟩
    have h0 := fun i (h : i < l.length) => dop2 h
    refine S_ Try.func14 (by kernel_rfl) rfl (Nat.le_of_ble_eq_true rfl) ?_
    show avc Try.prog SP _ _ _ _ _ _
    dsimp only [avc, startS, Array.toList, Try.f14]
    repeat' ((try conv => whnf) <;> (first | (refine Hold.mk ?_) | (refine And.intro (fun _ => ?_) (fun h => Bool.noConfusion h)) | (refine And.intro (fun h => Bool.noConfusion h) (fun _ => ?_)) | (refine And.intro (Nat.le_of_ble_eq_true rfl) ?_) | (refine And.intro (fun _ => ?_) (fun h => Bool.noConfusion ((beq_self_eq_true _).symm.trans h))) | (refine And.intro (fun h => Bool.noConfusion ((bne_self_eq_false _).symm.trans h)) (fun _ => ?_)) | (refine And.intro (fun h => Bool.noConfusion ((beq_self_eq_true _).symm.trans h)) (fun _ => ?_)) | (refine And.intro (fun _ => ?_) (fun h => Bool.noConfusion ((bne_self_eq_false _).symm.trans h))) | (refine And.intro (show inR _ from ⟨by omega, by omega⟩) ?_) | (exact True.intro) | (refine And.intro (show eqT _ _ = true by kernel_rfl) ?_) | (refine And.intro rfl ?_) | (refine And.intro (And.intro (Nat.le_of_ble_eq_true rfl) rfl) ?_) | (refine And.intro (And.intro rfl rfl) ?_) | (refine And.intro (And.intro rfl (And.intro rfl rfl)) ?_) | (exact And.intro rfl (And.intro rfl rfl)) | (exact And.intro rfl rfl) | (refine br_lt ?_ ?_ <;> intro hBr <;> (first | (exfalso; omega) | (exfalso; contradiction) | (exfalso; exact hBr rfl) | skip)) | (refine br_lt_ ?_ ?_ <;> intro hBr <;> (first | (exfalso; omega) | (exfalso; contradiction) | (exfalso; exact hBr rfl) | skip)) | (refine br_le ?_ ?_ <;> intro hBr <;> (first | (exfalso; omega) | (exfalso; contradiction) | (exfalso; exact hBr rfl) | skip)) | (refine br_le_ ?_ ?_ <;> intro hBr <;> (first | (exfalso; omega) | (exfalso; contradiction) | (exfalso; exact hBr rfl) | skip)) | (refine br_eq ?_ ?_ <;> intro hBr <;> (first | (exfalso; omega) | (exfalso; contradiction) | (exfalso; exact hBr rfl) | skip)) | (refine br_eq_ ?_ ?_ <;> intro hBr <;> (first | (exfalso; omega) | (exfalso; contradiction) | (exfalso; exact hBr rfl) | skip)) | (refine br_seq ?_ ?_ <;> intro hBr <;> (first | (exfalso; omega) | (exfalso; contradiction) | (exfalso; exact hBr rfl) | skip)) | (refine br_seq_ ?_ ?_ <;> intro hBr <;> (first | (exfalso; omega) | (exfalso; contradiction) | (exfalso; exact hBr rfl) | skip)) | (refine br_not ?_) | (refine br_not_ ?_) | (refine br_and ?_) | (refine br_and_ ?_) | (refine And.intro (by omega) ?_) | (refine ⟨_, wrap_i64 (by omega), ?_⟩) | (refine ⟨_, wrap_u64 (by omega) (by omega), ?_⟩) | (refine ⟨_, wrap_u8 (by omega) (by omega), ?_⟩) | (refine ⟨_, wrap_u32 (by omega) (by omega), ?_⟩) | (refine ⟨_, wrap_u16 (by omega) (by omega), ?_⟩) | (refine ⟨_, rfl, ?_⟩) | (exact rfl)))
    refine ⟨[5, 0], [], fun vs bl => ∃ i : Nat, i ≤ k ∧ (vs = [Z i, .vs l.length (dopC l)] ∧ bl = []), muL l.length, ?_, ?_⟩
    · exact ⟨0, by omega, rfl, rfl⟩
    rintro vs bl ⟨i, hi, rfl, rfl⟩
    have hlt : i < l.length := by omega
    have h2 := h0 i hlt
    have hd : l.length - ((i : Int) + 1).toNat < l.length - (i : Int).toNat := by omega
    have hb := bs_size l[i].s
    have hx : i = k → 100 < l[i].s.length := fun e => by subst e; exact hk2
    generalize l[i] = o at h2 hb hx
    clear h0
    by_cases hlong : 100 < (bs o.s).size
    · repeat' ((try conv => whnf) <;> (first | (refine Hold.mk ?_) | (refine And.intro (fun _ => ?_) (fun h => Bool.noConfusion h)) | (refine And.intro (fun h => Bool.noConfusion h) (fun _ => ?_)) | (refine And.intro (Nat.le_of_ble_eq_true rfl) ?_) | (refine And.intro (fun _ => ?_) (fun h => Bool.noConfusion ((beq_self_eq_true _).symm.trans h))) | (refine And.intro (fun h => Bool.noConfusion ((bne_self_eq_false _).symm.trans h)) (fun _ => ?_)) | (refine And.intro (fun h => Bool.noConfusion ((beq_self_eq_true _).symm.trans h)) (fun _ => ?_)) | (refine And.intro (fun _ => ?_) (fun h => Bool.noConfusion ((bne_self_eq_false _).symm.trans h))) | (refine And.intro (show inR _ from ⟨by omega, by omega⟩) ?_) | (refine ⟨_, h2, ?_⟩) | (exact True.intro) | (refine And.intro (show eqT _ _ = true by kernel_rfl) ?_) | (refine And.intro rfl ?_) | (refine And.intro (And.intro (Nat.le_of_ble_eq_true rfl) rfl) ?_) | (refine And.intro (And.intro rfl rfl) ?_) | (refine And.intro (And.intro rfl (And.intro rfl rfl)) ?_) | (exact And.intro rfl (And.intro rfl rfl)) | (exact And.intro rfl rfl) | (refine br_lt ?_ ?_ <;> intro hBr <;> (first | (exfalso; omega) | (exfalso; contradiction) | (exfalso; exact hBr rfl) | skip)) | (refine br_lt_ ?_ ?_ <;> intro hBr <;> (first | (exfalso; omega) | (exfalso; contradiction) | (exfalso; exact hBr rfl) | skip)) | (refine br_le ?_ ?_ <;> intro hBr <;> (first | (exfalso; omega) | (exfalso; contradiction) | (exfalso; exact hBr rfl) | skip)) | (refine br_le_ ?_ ?_ <;> intro hBr <;> (first | (exfalso; omega) | (exfalso; contradiction) | (exfalso; exact hBr rfl) | skip)) | (refine br_eq ?_ ?_ <;> intro hBr <;> (first | (exfalso; omega) | (exfalso; contradiction) | (exfalso; exact hBr rfl) | skip)) | (refine br_eq_ ?_ ?_ <;> intro hBr <;> (first | (exfalso; omega) | (exfalso; contradiction) | (exfalso; exact hBr rfl) | skip)) | (refine br_seq ?_ ?_ <;> intro hBr <;> (first | (exfalso; omega) | (exfalso; contradiction) | (exfalso; exact hBr rfl) | skip)) | (refine br_seq_ ?_ ?_ <;> intro hBr <;> (first | (exfalso; omega) | (exfalso; contradiction) | (exfalso; exact hBr rfl) | skip)) | (refine br_not ?_) | (refine br_not_ ?_) | (refine br_and ?_) | (refine br_and_ ?_) | (refine And.intro (by omega) ?_) | (refine ⟨_, wrap_i64 (by omega), ?_⟩) | (refine ⟨_, wrap_u64 (by omega) (by omega), ?_⟩) | (refine ⟨_, wrap_u8 (by omega) (by omega), ?_⟩) | (refine ⟨_, wrap_u32 (by omega) (by omega), ?_⟩) | (refine ⟨_, wrap_u16 (by omega) (by omega), ?_⟩) | (refine ⟨_, rfl, ?_⟩) | (exact rfl)))
    · have : i ≠ k := fun e => hlong (by have := hx e; omega)
      clear hx
      repeat' ((try conv => whnf) <;> (first | (refine Hold.mk ?_) | (refine And.intro (fun _ => ?_) (fun h => Bool.noConfusion h)) | (refine And.intro (fun h => Bool.noConfusion h) (fun _ => ?_)) | (refine And.intro (Nat.le_of_ble_eq_true rfl) ?_) | (refine And.intro (fun _ => ?_) (fun h => Bool.noConfusion ((beq_self_eq_true _).symm.trans h))) | (refine And.intro (fun h => Bool.noConfusion ((bne_self_eq_false _).symm.trans h)) (fun _ => ?_)) | (refine And.intro (fun h => Bool.noConfusion ((beq_self_eq_true _).symm.trans h)) (fun _ => ?_)) | (refine And.intro (fun _ => ?_) (fun h => Bool.noConfusion ((bne_self_eq_false _).symm.trans h))) | (refine And.intro (show inR _ from ⟨by omega, by omega⟩) ?_) | (refine ⟨_, h2, ?_⟩) | (exact True.intro) | (refine And.intro (show eqT _ _ = true by kernel_rfl) ?_) | (refine And.intro rfl ?_) | (refine And.intro (And.intro (Nat.le_of_ble_eq_true rfl) rfl) ?_) | (refine And.intro (And.intro rfl rfl) ?_) | (refine And.intro (And.intro rfl (And.intro rfl rfl)) ?_) | (exact And.intro rfl (And.intro rfl rfl)) | (exact And.intro rfl rfl) | (refine br_lt ?_ ?_ <;> intro hBr <;> (first | (exfalso; omega) | (exfalso; contradiction) | (exfalso; exact hBr rfl) | skip)) | (refine br_lt_ ?_ ?_ <;> intro hBr <;> (first | (exfalso; omega) | (exfalso; contradiction) | (exfalso; exact hBr rfl) | skip)) | (refine br_le ?_ ?_ <;> intro hBr <;> (first | (exfalso; omega) | (exfalso; contradiction) | (exfalso; exact hBr rfl) | skip)) | (refine br_le_ ?_ ?_ <;> intro hBr <;> (first | (exfalso; omega) | (exfalso; contradiction) | (exfalso; exact hBr rfl) | skip)) | (refine br_eq ?_ ?_ <;> intro hBr <;> (first | (exfalso; omega) | (exfalso; contradiction) | (exfalso; exact hBr rfl) | skip)) | (refine br_eq_ ?_ ?_ <;> intro hBr <;> (first | (exfalso; omega) | (exfalso; contradiction) | (exfalso; exact hBr rfl) | skip)) | (refine br_seq ?_ ?_ <;> intro hBr <;> (first | (exfalso; omega) | (exfalso; contradiction) | (exfalso; exact hBr rfl) | skip)) | (refine br_seq_ ?_ ?_ <;> intro hBr <;> (first | (exfalso; omega) | (exfalso; contradiction) | (exfalso; exact hBr rfl) | skip)) | (refine br_not ?_) | (refine br_not_ ?_) | (refine br_and ?_) | (refine br_and_ ?_) | (refine And.intro (by omega) ?_) | (refine ⟨_, wrap_i64 (by omega), ?_⟩) | (refine ⟨_, wrap_u64 (by omega) (by omega), ?_⟩) | (refine ⟨_, wrap_u8 (by omega) (by omega), ?_⟩) | (refine ⟨_, wrap_u32 (by omega) (by omega), ?_⟩) | (refine ⟨_, wrap_u16 (by omega) (by omega), ?_⟩) | (refine ⟨_, rfl, ?_⟩) | (exact rfl)))
      exact ⟨⟨i + 1, by omega, rfl, rfl⟩, hd⟩
  · refine S_ Try.func14 (by kernel_rfl) rfl (Nat.le_of_ble_eq_true rfl) ?_ -- G
    repeat' ((try conv => whnf) <;> (first | (refine Hold.mk ?_) | (refine And.intro (fun _ => ?_) (fun h => Bool.noConfusion h)) | (refine And.intro (fun h => Bool.noConfusion h) (fun _ => ?_)) | (refine And.intro (Nat.le_of_ble_eq_true rfl) ?_) | (refine And.intro (fun _ => ?_) (fun h => Bool.noConfusion ((beq_self_eq_true _).symm.trans h))) | (refine And.intro (fun h => Bool.noConfusion ((bne_self_eq_false _).symm.trans h)) (fun _ => ?_)) | (refine And.intro (fun h => Bool.noConfusion ((beq_self_eq_true _).symm.trans h)) (fun _ => ?_)) | (refine And.intro (fun _ => ?_) (fun h => Bool.noConfusion ((bne_self_eq_false _).symm.trans h))) | (refine And.intro (show inR _ from ⟨by omega, by omega⟩) ?_) | (exact True.intro) | (refine And.intro (show eqT _ _ = true by kernel_rfl) ?_) | (refine And.intro rfl ?_) | (refine And.intro (And.intro (Nat.le_of_ble_eq_true rfl) rfl) ?_) | (refine And.intro (And.intro rfl rfl) ?_) | (refine And.intro (And.intro rfl (And.intro rfl rfl)) ?_) | (exact And.intro rfl (And.intro rfl rfl)) | (exact And.intro rfl rfl) | (refine br_lt ?_ ?_ <;> intro hBr <;> (first | (exfalso; omega) | (exfalso; contradiction) | (exfalso; exact hBr rfl) | skip)) | (refine br_lt_ ?_ ?_ <;> intro hBr <;> (first | (exfalso; omega) | (exfalso; contradiction) | (exfalso; exact hBr rfl) | skip)) | (refine br_le ?_ ?_ <;> intro hBr <;> (first | (exfalso; omega) | (exfalso; contradiction) | (exfalso; exact hBr rfl) | skip)) | (refine br_le_ ?_ ?_ <;> intro hBr <;> (first | (exfalso; omega) | (exfalso; contradiction) | (exfalso; exact hBr rfl) | skip)) | (refine br_eq ?_ ?_ <;> intro hBr <;> (first | (exfalso; omega) | (exfalso; contradiction) | (exfalso; exact hBr rfl) | skip)) | (refine br_eq_ ?_ ?_ <;> intro hBr <;> (first | (exfalso; omega) | (exfalso; contradiction) | (exfalso; exact hBr rfl) | skip)) | (refine br_seq ?_ ?_ <;> intro hBr <;> (first | (exfalso; omega) | (exfalso; contradiction) | (exfalso; exact hBr rfl) | skip)) | (refine br_seq_ ?_ ?_ <;> intro hBr <;> (first | (exfalso; omega) | (exfalso; contradiction) | (exfalso; exact hBr rfl) | skip)) | (refine br_not ?_) | (refine br_not_ ?_) | (refine br_and ?_) | (refine br_and_ ?_) | (refine And.intro (by omega) ?_) | (refine ⟨_, wrap_i64 (by omega), ?_⟩) | (refine ⟨_, wrap_u64 (by omega) (by omega), ?_⟩) | (refine ⟨_, wrap_u8 (by omega) (by omega), ?_⟩) | (refine ⟨_, wrap_u32 (by omega) (by omega), ?_⟩) | (refine ⟨_, wrap_u16 (by omega) (by omega), ?_⟩) | (refine ⟨_, rfl, ?_⟩) | (exact rfl)))
theorem over_no {l : List DOp} {most : Nat} (h : OkOver l most) (hm : most ≤ 1000) : SP 14 [.vs l.length (dopC l), Z most] (Z 0) := by
  obtain ⟨h1, hs⟩ := h
  have h0 := fun i (h : i < l.length) => dop2 h
  have hs := fun i (h : i < l.length) => hs _ (List.getElem_mem h)
  refine S_ Try.func14 (by kernel_rfl) rfl (Nat.le_of_ble_eq_true rfl) ?_
  show avc Try.prog SP _ _ _ _ _ _
  dsimp only [avc, startS, Array.toList, Try.f14]
  repeat' ((try conv => whnf) <;> (first | (refine Hold.mk ?_) | (refine And.intro (fun _ => ?_) (fun h => Bool.noConfusion h)) | (refine And.intro (fun h => Bool.noConfusion h) (fun _ => ?_)) | (refine And.intro (Nat.le_of_ble_eq_true rfl) ?_) | (refine And.intro (fun _ => ?_) (fun h => Bool.noConfusion ((beq_self_eq_true _).symm.trans h))) | (refine And.intro (fun h => Bool.noConfusion ((bne_self_eq_false _).symm.trans h)) (fun _ => ?_)) | (refine And.intro (fun h => Bool.noConfusion ((beq_self_eq_true _).symm.trans h)) (fun _ => ?_)) | (refine And.intro (fun _ => ?_) (fun h => Bool.noConfusion ((bne_self_eq_false _).symm.trans h))) | (refine And.intro (show inR _ from ⟨by omega, by omega⟩) ?_) | (exact True.intro) | (refine And.intro (show eqT _ _ = true by kernel_rfl) ?_) | (refine And.intro rfl ?_) | (refine And.intro (And.intro (Nat.le_of_ble_eq_true rfl) rfl) ?_) | (refine And.intro (And.intro rfl rfl) ?_) | (refine And.intro (And.intro rfl (And.intro rfl rfl)) ?_) | (exact And.intro rfl (And.intro rfl rfl)) | (exact And.intro rfl rfl) | (refine br_lt ?_ ?_ <;> intro hBr <;> (first | (exfalso; omega) | (exfalso; contradiction) | (exfalso; exact hBr rfl) | skip)) | (refine br_lt_ ?_ ?_ <;> intro hBr <;> (first | (exfalso; omega) | (exfalso; contradiction) | (exfalso; exact hBr rfl) | skip)) | (refine br_le ?_ ?_ <;> intro hBr <;> (first | (exfalso; omega) | (exfalso; contradiction) | (exfalso; exact hBr rfl) | skip)) | (refine br_le_ ?_ ?_ <;> intro hBr <;> (first | (exfalso; omega) | (exfalso; contradiction) | (exfalso; exact hBr rfl) | skip)) | (refine br_eq ?_ ?_ <;> intro hBr <;> (first | (exfalso; omega) | (exfalso; contradiction) | (exfalso; exact hBr rfl) | skip)) | (refine br_eq_ ?_ ?_ <;> intro hBr <;> (first | (exfalso; omega) | (exfalso; contradiction) | (exfalso; exact hBr rfl) | skip)) | (refine br_seq ?_ ?_ <;> intro hBr <;> (first | (exfalso; omega) | (exfalso; contradiction) | (exfalso; exact hBr rfl) | skip)) | (refine br_seq_ ?_ ?_ <;> intro hBr <;> (first | (exfalso; omega) | (exfalso; contradiction) | (exfalso; exact hBr rfl) | skip)) | (refine br_not ?_) | (refine br_not_ ?_) | (refine br_and ?_) | (refine br_and_ ?_) | (refine And.intro (by omega) ?_) | (refine ⟨_, wrap_i64 (by omega), ?_⟩) | (refine ⟨_, wrap_u64 (by omega) (by omega), ?_⟩) | (refine ⟨_, wrap_u8 (by omega) (by omega), ?_⟩) | (refine ⟨_, wrap_u32 (by omega) (by omega), ?_⟩) | (refine ⟨_, wrap_u16 (by omega) (by omega), ?_⟩) | (refine ⟨_, rfl, ?_⟩) | (exact rfl)))
  refine ⟨[5, 0], [], fun vs bl => ∃ i : Nat, i ≤ l.length ∧ (vs = [Z i, .vs l.length (dopC l)] ∧ bl = []), muL l.length, ?_, ?_⟩
  · exact ⟨0, by omega, rfl, rfl⟩
  rintro vs bl ⟨i, hi, rfl, rfl⟩
  by_cases hlt : i < l.length
  · have h2 := h0 i hlt
    have hd : l.length - ((i : Int) + 1).toNat < l.length - (i : Int).toNat := by omega
    have hb := bs_size l[i].s
    have hx := hs i hlt
    generalize l[i] = o at h2 hb hx
    clear h0 hs
    repeat' ((try conv => whnf) <;> (first | (refine Hold.mk ?_) | (refine And.intro (fun _ => ?_) (fun h => Bool.noConfusion h)) | (refine And.intro (fun h => Bool.noConfusion h) (fun _ => ?_)) | (refine And.intro (Nat.le_of_ble_eq_true rfl) ?_) | (refine And.intro (fun _ => ?_) (fun h => Bool.noConfusion ((beq_self_eq_true _).symm.trans h))) | (refine And.intro (fun h => Bool.noConfusion ((bne_self_eq_false _).symm.trans h)) (fun _ => ?_)) | (refine And.intro (fun h => Bool.noConfusion ((beq_self_eq_true _).symm.trans h)) (fun _ => ?_)) | (refine And.intro (fun _ => ?_) (fun h => Bool.noConfusion ((bne_self_eq_false _).symm.trans h))) | (refine And.intro (show inR _ from ⟨by omega, by omega⟩) ?_) | (refine ⟨_, h2, ?_⟩) | (exact True.intro) | (refine And.intro (show eqT _ _ = true by kernel_rfl) ?_) | (refine And.intro rfl ?_) | (refine And.intro (And.intro (Nat.le_of_ble_eq_true rfl) rfl) ?_) | (refine And.intro (And.intro rfl rfl) ?_) | (refine And.intro (And.intro rfl (And.intro rfl rfl)) ?_) | (exact And.intro rfl (And.intro rfl rfl)) | (exact And.intro rfl rfl) | (refine br_lt ?_ ?_ <;> intro hBr <;> (first | (exfalso; omega) | (exfalso; contradiction) | (exfalso; exact hBr rfl) | skip)) | (refine br_lt_ ?_ ?_ <;> intro hBr <;> (first | (exfalso; omega) | (exfalso; contradiction) | (exfalso; exact hBr rfl) | skip)) | (refine br_le ?_ ?_ <;> intro hBr <;> (first | (exfalso; omega) | (exfalso; contradiction) | (exfalso; exact hBr rfl) | skip)) | (refine br_le_ ?_ ?_ <;> intro hBr <;> (first | (exfalso; omega) | (exfalso; contradiction) | (exfalso; exact hBr rfl) | skip)) | (refine br_eq ?_ ?_ <;> intro hBr <;> (first | (exfalso; omega) | (exfalso; contradiction) | (exfalso; exact hBr rfl) | skip)) | (refine br_eq_ ?_ ?_ <;> intro hBr <;> (first | (exfalso; omega) | (exfalso; contradiction) | (exfalso; exact hBr rfl) | skip)) | (refine br_seq ?_ ?_ <;> intro hBr <;> (first | (exfalso; omega) | (exfalso; contradiction) | (exfalso; exact hBr rfl) | skip)) | (refine br_seq_ ?_ ?_ <;> intro hBr <;> (first | (exfalso; omega) | (exfalso; contradiction) | (exfalso; exact hBr rfl) | skip)) | (refine br_not ?_) | (refine br_not_ ?_) | (refine br_and ?_) | (refine br_and_ ?_) | (refine And.intro (by omega) ?_) | (refine ⟨_, wrap_i64 (by omega), ?_⟩) | (refine ⟨_, wrap_u64 (by omega) (by omega), ?_⟩) | (refine ⟨_, wrap_u8 (by omega) (by omega), ?_⟩) | (refine ⟨_, wrap_u32 (by omega) (by omega), ?_⟩) | (refine ⟨_, wrap_u16 (by omega) (by omega), ?_⟩) | (refine ⟨_, rfl, ?_⟩) | (exact rfl)))
    exact ⟨⟨i + 1, by omega, rfl, rfl⟩, hd⟩
  · obtain rfl : i = l.length := by omega
    clear h0 hs
    repeat' ((try conv => whnf) <;> (first | (refine Hold.mk ?_) | (refine And.intro (fun _ => ?_) (fun h => Bool.noConfusion h)) | (refine And.intro (fun h => Bool.noConfusion h) (fun _ => ?_)) | (refine And.intro (Nat.le_of_ble_eq_true rfl) ?_) | (refine And.intro (fun _ => ?_) (fun h => Bool.noConfusion ((beq_self_eq_true _).symm.trans h))) | (refine And.intro (fun h => Bool.noConfusion ((bne_self_eq_false _).symm.trans h)) (fun _ => ?_)) | (refine And.intro (fun h => Bool.noConfusion ((beq_self_eq_true _).symm.trans h)) (fun _ => ?_)) | (refine And.intro (fun _ => ?_) (fun h => Bool.noConfusion ((bne_self_eq_false _).symm.trans h))) | (refine And.intro (show inR _ from ⟨by omega, by omega⟩) ?_) | (exact True.intro) | (refine And.intro (show eqT _ _ = true by kernel_rfl) ?_) | (refine And.intro rfl ?_) | (refine And.intro (And.intro (Nat.le_of_ble_eq_true rfl) rfl) ?_) | (refine And.intro (And.intro rfl rfl) ?_) | (refine And.intro (And.intro rfl (And.intro rfl rfl)) ?_) | (exact And.intro rfl (And.intro rfl rfl)) | (exact And.intro rfl rfl) | (refine br_lt ?_ ?_ <;> intro hBr <;> (first | (exfalso; omega) | (exfalso; contradiction) | (exfalso; exact hBr rfl) | skip)) | (refine br_lt_ ?_ ?_ <;> intro hBr <;> (first | (exfalso; omega) | (exfalso; contradiction) | (exfalso; exact hBr rfl) | skip)) | (refine br_le ?_ ?_ <;> intro hBr <;> (first | (exfalso; omega) | (exfalso; contradiction) | (exfalso; exact hBr rfl) | skip)) | (refine br_le_ ?_ ?_ <;> intro hBr <;> (first | (exfalso; omega) | (exfalso; contradiction) | (exfalso; exact hBr rfl) | skip)) | (refine br_eq ?_ ?_ <;> intro hBr <;> (first | (exfalso; omega) | (exfalso; contradiction) | (exfalso; exact hBr rfl) | skip)) | (refine br_eq_ ?_ ?_ <;> intro hBr <;> (first | (exfalso; omega) | (exfalso; contradiction) | (exfalso; exact hBr rfl) | skip)) | (refine br_seq ?_ ?_ <;> intro hBr <;> (first | (exfalso; omega) | (exfalso; contradiction) | (exfalso; exact hBr rfl) | skip)) | (refine br_seq_ ?_ ?_ <;> intro hBr <;> (first | (exfalso; omega) | (exfalso; contradiction) | (exfalso; exact hBr rfl) | skip)) | (refine br_not ?_) | (refine br_not_ ?_) | (refine br_and ?_) | (refine br_and_ ?_) | (refine And.intro (by omega) ?_) | (refine ⟨_, wrap_i64 (by omega), ?_⟩) | (refine ⟨_, wrap_u64 (by omega) (by omega), ?_⟩) | (refine ⟨_, wrap_u8 (by omega) (by omega), ?_⟩) | (refine ⟨_, wrap_u32 (by omega) (by omega), ?_⟩) | (refine ⟨_, wrap_u16 (by omega) (by omega), ?_⟩) | (refine ⟨_, rfl, ?_⟩) | (exact rfl)))
/-! ### a device, and the document's, one thing after the other -/
structure St where
  q : Pd
  l : List Rw
  k : Nat
  w : Nat
def St.L (n : Nat) (a : St) : List Key := runW a.l (newL n)
def St.P (n : Nat) (a : St) : List Wr := pend (a.l.drop a.k) (runW (a.l.take a.k) (newL n))
structure St.Ok (n : Nat) (a : St) (i : Nat) : Prop where
  k : a.k ≤ a.l.length
  rw : RwOk a.l n
  full : Full64 (a.l.drop a.k)
  q : PdOk a.q (a.P n)
  len : a.l.length ≤ i
  w : a.w ≤ i
def crashL (p : Plan) (a : St) : List Rw := a.l.take a.k ++ keptL p 0 (a.l.drop a.k)
def stepD (n : Nat) (a : St) (o : DOp) : St :=
  if o.kind % 6 = 3 then ⟨.nil, a.l, a.l.length, a.w⟩
  else if o.kind % 6 = 4 then ⟨.nil, crashL o.plan a, (crashL o.plan a).length, a.w⟩
  else if o.kind % 6 = 5 then ⟨a.q.right, a.l, a.k, a.w⟩
  else if 0 ≤ o.n ∧ o.n < n ∧ (textD o).length = 64 then ⟨a.q.next, a.l ++ [(o.n.toNat, textD o)], a.k, a.w + 1⟩ else a
def st0 : St := ⟨.nil, [], 0, 0⟩
theorem st0_ok (n : Nat) : st0.Ok n 0 := ⟨Nat.le_refl _, fun x hx => (by cases hx), fun x hx => (by cases hx), rfl, Nat.le_refl _, Nat.le_refl _⟩
section
variable {n : Nat} {a : St} {i : Nat}
theorem St.Ok.base (h : a.Ok n i) : Sec (runW (a.l.take a.k) (newL n)) ∧ (runW (a.l.take a.k) (newL n)).length = n :=
  ⟨Sec.runW (newL_sec n) fun x hx => by rw [newL_len]; exact h.rw x (List.mem_of_mem_take hx), by rw [runW_len, newL_len]⟩
theorem St.Ok.L_len (h : a.Ok n i) : (a.L n).length = n := by unfold St.L; rw [runW_len, newL_len]
theorem St.Ok.L_sec (h : a.Ok n i) : Sec (a.L n) := Sec.runW (newL_sec n) fun x hx => by rw [newL_len]; exact h.rw x hx
theorem St.Ok.drop (h : a.Ok n i) : RwOk (a.l.drop a.k) (runW (a.l.take a.k) (newL n)).length := fun x hx => by rw [h.base.2]; exact h.rw x (List.mem_of_mem_drop hx)
theorem St.L_eq (n : Nat) (a : St) : a.L n = runW (a.l.drop a.k) (runW (a.l.take a.k) (newL n)) := by
  unfold St.L; rw [← runW_app, List.take_append_drop]
theorem St.Ok.undo (h : a.Ok n i) : undoL (a.P n) (a.L n) = runW (a.l.take a.k) (newL n) := by
  rw [St.L_eq]; exact undo_pend _ _ h.base.1 h.drop h.full
theorem St.P_len (n : Nat) (a : St) : (a.P n).length = a.l.length - a.k := by unfold St.P; rw [pend_len, List.length_drop]
theorem St.Ok.P_ok (h : a.Ok n i) : WrOk (a.P n) n := by
  have := pend_ok _ _ h.base.1 h.drop h.full
  rw [h.base.2] at this; exact this
theorem St.Ok.crash (h : a.Ok n i) (p : Plan) : keepL p 0 (a.P n) (undoL (a.P n) (a.L n)) = runW (crashL p a) (newL n) := by
  rw [h.undo]
  unfold St.P crashL
  rw [keep_kept p _ 0 _ _ h.base.1 rfl h.drop h.full, ← runW_app]
theorem St.Ok.sync (h : a.Ok n i) : (⟨.nil, a.l, a.l.length, a.w⟩ : St).Ok n i :=
  ⟨Nat.le_refl _, h.rw, fun x hx => (by
    have : (a.l.drop a.l.length) = [] := List.drop_length
    rw [this] at hx; cases hx), (by
    show St.P n _ = []
    unfold St.P
    show pend (a.l.drop a.l.length) _ = []
    rw [List.drop_length]; rfl), h.len, h.w⟩
theorem crashL_len (p : Plan) (h : a.Ok n i) : (crashL p a).length ≤ a.l.length := by
  unfold crashL
  rw [List.length_append, List.length_take]
  have := keptL_len p (a.l.drop a.k) 0
  have := h.k
  rw [List.length_drop] at *
  omega
theorem St.Ok.crash2 (h : a.Ok n i) (p : Plan) : (⟨.nil, crashL p a, (crashL p a).length, a.w⟩ : St).Ok n i :=
  ⟨Nat.le_refl _, fun x hx => (by
    rcases List.mem_append.1 hx with h1 | h1
    · exact h.rw x (List.mem_of_mem_take h1)
    · obtain ⟨y, hy, e1, e2⟩ := keptL_in p _ _ x h1
      have := h.rw y (List.mem_of_mem_drop hy)
      exact ⟨by omega, by omega⟩), fun x hx => (by
    have : ((crashL p a).drop (crashL p a).length) = [] := List.drop_length
    rw [this] at hx; cases hx), (by
    show St.P n _ = []
    unfold St.P
    show pend ((crashL p a).drop (crashL p a).length) _ = []
    rw [List.drop_length]; rfl), Nat.le_trans (crashL_len p h) h.len, h.w⟩
theorem St.Ok.fork (h : a.Ok n i) : (⟨a.q.right, a.l, a.k, a.w⟩ : St).Ok n i :=
  ⟨h.k, h.rw, h.full, (by
    have := h.q
    show PdOk a.q.right (a.P n)
    cases hq : a.q with
    | nil => rw [hq] at this; exact this
    | row fz => trivial
    | sh => trivial), h.len, h.w⟩
theorem St.Ok.put (h : a.Ok n i) {m : Nat} {s : Key} (hm : m < n) (hs : s.length = 64) : (⟨a.q.next, a.l ++ [(m, s)], a.k, a.w + 1⟩ : St).Ok n (i + 1) :=
  ⟨by show a.k ≤ (a.l ++ _).length; rw [List.length_append]; have := h.k; omega, fun x hx => (by
    rcases List.mem_append.1 hx with h1 | h1
    · exact h.rw x h1
    · rcases List.mem_singleton.1 h1 with rfl; exact ⟨hm, by show s.length ≤ 64; omega⟩), fun x hx => (by
    have hx : x ∈ (a.l ++ [(m, s)]).drop a.k := hx
    rw [List.drop_append_of_le_length h.k] at hx
    rcases List.mem_append.1 hx with h1 | h1
    · exact h.full x h1
    · rcases List.mem_singleton.1 h1 with rfl; exact hs), (by
    show PdOk a.q.next _
    cases a.q <;> trivial), by show (a.l ++ _).length ≤ _; rw [List.length_append]; have := h.len; show _ + 1 ≤ _; omega, by have := h.w; show a.w + 1 ≤ _; omega⟩
theorem St.put_L (h : a.Ok n i) {m : Nat} {s : Key} (hm : m < n) (hs : s.length = 64) : (⟨a.q.next, a.l ++ [(m, s)], a.k, a.w + 1⟩ : St).L n = (a.L n).set m s := by
  show runW (a.l ++ [(m, s)]) _ = _
  rw [runW_app]
  show put1 (a.L n) (m, s) = _
  exact put1_full h.L_sec (by rw [h.L_len]; exact hm) hs
theorem St.put_P (h : a.Ok n i) {m : Nat} {s : Key} (hm : m < n) (hs : s.length = 64) : (⟨a.q.next, a.l ++ [(m, s)], a.k, a.w + 1⟩ : St).P n = a.P n ++ [(m, s, (a.L n)[m]?.getD [])] := by
  show pend ((a.l ++ [(m, s)]).drop a.k) (runW ((a.l ++ [(m, s)]).take a.k) _) = _
  rw [List.drop_append_of_le_length h.k, List.take_append_of_le_length h.k, pend_app _ _ _ h.base.1 h.drop h.full, ← St.L_eq]
  rfl
theorem step_ok (h : a.Ok n i) (o : DOp) : (stepD n a o).Ok n (i + 1) := by
  have up : ∀ {b : St}, b.Ok n i → b.Ok n (i + 1) := fun hb => ⟨hb.k, hb.rw, hb.full, hb.q, Nat.le_succ_of_le hb.len, Nat.le_succ_of_le hb.w⟩
  unfold stepD
  split
  · exact up h.sync
  · split
    · exact up (h.crash2 _)
    · split
      · exact up h.fork
      · split
        · rename_i hc
          exact h.put (by omega) hc.2.2
        · exact up h
end
def runD (n : Nat) (l : List DOp) : St := l.foldl (stepD n) st0
theorem runD_ok (n : Nat) (l : List DOp) : (runD n l).Ok n l.length := by
  have : ∀ (l : List DOp) (a : St) (i : Nat), a.Ok n i → (l.foldl (stepD n) a).Ok n (i + l.length) := by
    intro l
    induction l with
    | nil => intro a i h; exact h
    | cons o l ih =>
      intro a i h
      rw [List.foldl_cons, show i + (o :: l).length = i + 1 + l.length by simp; omega]
      exact ih _ _ (step_ok h o)
  have := this l st0 0 (st0_ok n)
  rwa [Nat.zero_add] at this
theorem runD_take {n : Nat} {l : List DOp} {i : Nat} (h : i < l.length) : runD n (l.take (i + 1)) = stepD n (runD n (l.take i)) l[i] := by
  rw [List.take_succ_eq_append_getElem h]
  unfold runD; rw [List.foldl_append]; rfl
end Go.Proofs.Ytdjdcpbakeahcaa.Av
