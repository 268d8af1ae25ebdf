/- root: sectors are opened, by the document; what is told of a sector, in plain bytes. No conditions but that texts are shorter than memory. -/
import Derived.Test.YtjfkfldlmhbnkaaRoot3
import Derived.Test.YtjfkfldlmhbnkaaStamp10
namespace Go.Proofs.Ytjfkfldlmhbnkaa.Av
set_option maxHeartbeats 1000000
open Go Go.RowKit
set_option linter.unusedVariables false
set_option linter.unusedSimpArgs false
set_option maxRecDepth 100000

theorem rropen_1 (s p : List UInt8) (m : Nat) (e : Int) (he : e ≠ 0) (hO : SP 64 [T s] (.tup [U m, T p, Z e])) : SP 39 [T s] (.tup [rt 0 0 0 0, Z e]) := by
  refine S_ Try.func39 (by kernel_rfl) rfl (Nat.le_of_ble_eq_true rfl) ?_
  show avc Try.prog SP _ _ _ _ _ _
  dsimp only [avc, startS, Array.toList, Try.f39]
  repeat' ((try conv => whnf) <;> (first | (refine Hold.mk ?_) | (refine And.intro (fun _ => ?_) (fun h => Bool.noConfusion h)) | (refine And.intro (fun h => Bool.noConfusion h) (fun _ => ?_)) | (refine And.intro (Nat.le_of_ble_eq_true rfl) ?_) | (refine And.intro (fun _ => ?_) (fun h => Bool.noConfusion ((beq_self_eq_true _).symm.trans h))) | (refine And.intro (fun h => Bool.noConfusion ((bne_self_eq_false _).symm.trans h)) (fun _ => ?_)) | (refine And.intro (fun h => Bool.noConfusion ((beq_self_eq_true _).symm.trans h)) (fun _ => ?_)) | (refine And.intro (fun _ => ?_) (fun h => Bool.noConfusion ((bne_self_eq_false _).symm.trans h))) | (refine ⟨_, hO, ?_⟩) | (exact True.intro) | (refine And.intro (show eqT _ _ = true by kernel_rfl) ?_) | (refine And.intro rfl ?_) | (refine And.intro (And.intro (Nat.le_of_ble_eq_true rfl) rfl) ?_) | (refine And.intro (And.intro rfl (And.intro rfl rfl)) ?_) | (exact And.intro rfl (And.intro rfl rfl)) | (exact And.intro rfl rfl) | (refine br_lt ?_ ?_ <;> intro hBr <;> (first | (exfalso; omega) | (exfalso; contradiction) | (exfalso; exact hBr rfl) | skip)) | (refine br_lt_ ?_ ?_ <;> intro hBr <;> (first | (exfalso; omega) | (exfalso; contradiction) | (exfalso; exact hBr rfl) | skip)) | (refine br_le ?_ ?_ <;> intro hBr <;> (first | (exfalso; omega) | (exfalso; contradiction) | (exfalso; exact hBr rfl) | skip)) | (refine br_le_ ?_ ?_ <;> intro hBr <;> (first | (exfalso; omega) | (exfalso; contradiction) | (exfalso; exact hBr rfl) | skip)) | (refine br_eq ?_ ?_ <;> intro hBr <;> (first | (exfalso; omega) | (exfalso; contradiction) | (exfalso; exact hBr rfl) | skip)) | (refine br_eq_ ?_ ?_ <;> intro hBr <;> (first | (exfalso; omega) | (exfalso; contradiction) | (exfalso; exact hBr rfl) | skip)) | (refine br_seq ?_ ?_ <;> intro hBr <;> (first | (exfalso; omega) | (exfalso; contradiction) | (exfalso; exact hBr rfl) | skip)) | (refine br_seq_ ?_ ?_ <;> intro hBr <;> (first | (exfalso; omega) | (exfalso; contradiction) | (exfalso; exact hBr rfl) | skip)) | (refine br_not ?_) | (refine br_not_ ?_) | (refine br_and ?_) | (refine br_and_ ?_) | (refine And.intro (by omega) ?_) | (refine ⟨_, wrap_i64 (by omega), ?_⟩) | (refine ⟨_, wrap_u64 (by omega) (by omega), ?_⟩) | (refine ⟨_, wrap_u8 (by omega) (by omega), ?_⟩) | (refine ⟨_, wrap_u32 (by omega) (by omega), ?_⟩) | (refine ⟨_, wrap_u16 (by omega) (by omega), ?_⟩) | (refine ⟨_, rfl, ?_⟩) | (exact rfl)))
theorem rropen_2 (s p t : List UInt8) (m a z u : Nat) (g pl p1 p2 p3 f : Int) (b : Bool) (ha : a < 256) (hz : z < 4294967296) (hu : u < 4294967296) (hf : f ≠ 0 ∨ t ≠ s)
    (hO : SP 64 [T s] (.tup [U m, T p, Z 0])) (hP : SP 18 [U m] (.tup [U g, Z pl, B b]))
    (h1 : SP 65 [scM p 0 0, Z 1] (numM a p p1 0)) (h2 : SP 65 [scM p p1 0, Z 4] (numM z p p2 0)) (h3 : SP 65 [scM p p2 0, Z 4] (numM u p p3 0))
    (hS : SP 31 [rt g a z u] (.tup [T t, Z f])) : SP 39 [T s] (.tup [rt 0 0 0 0, Z 4]) := by
  rcases hf with hf | hf
  · refine S_ Try.func39 (by kernel_rfl) rfl (Nat.le_of_ble_eq_true rfl) ?_ -- G
    repeat' ((try conv => whnf) <;> (first | (refine Hold.mk ?_) | (refine And.intro (fun _ => ?_) (fun h => Bool.noConfusion h)) | (refine And.intro (fun h => Bool.noConfusion h) (fun _ => ?_)) | (refine And.intro (Nat.le_of_ble_eq_true rfl) ?_) | (refine And.intro (fun _ => ?_) (fun h => Bool.noConfusion ((beq_self_eq_true _).symm.trans h))) | (refine And.intro (fun h => Bool.noConfusion ((bne_self_eq_false _).symm.trans h)) (fun _ => ?_)) | (refine And.intro (fun h => Bool.noConfusion ((beq_self_eq_true _).symm.trans h)) (fun _ => ?_)) | (refine And.intro (fun _ => ?_) (fun h => Bool.noConfusion ((bne_self_eq_false _).symm.trans h))) | (refine ⟨_, hO, ?_⟩) | (refine ⟨_, hP, ?_⟩) | (refine ⟨_, h1, ?_⟩) | (refine ⟨_, h2, ?_⟩) | (refine ⟨_, h3, ?_⟩) | (refine ⟨_, hS, ?_⟩) | (exact True.intro) | (refine And.intro (show eqT _ _ = true by kernel_rfl) ?_) | (refine And.intro rfl ?_) | (refine And.intro (And.intro (Nat.le_of_ble_eq_true rfl) rfl) ?_) | (refine And.intro (And.intro rfl (And.intro rfl rfl)) ?_) | (exact And.intro rfl (And.intro rfl rfl)) | (exact And.intro rfl rfl) | (refine br_lt ?_ ?_ <;> intro hBr <;> (first | (exfalso; omega) | (exfalso; contradiction) | (exfalso; exact hBr rfl) | skip)) | (refine br_lt_ ?_ ?_ <;> intro hBr <;> (first | (exfalso; omega) | (exfalso; contradiction) | (exfalso; exact hBr rfl) | skip)) | (refine br_le ?_ ?_ <;> intro hBr <;> (first | (exfalso; omega) | (exfalso; contradiction) | (exfalso; exact hBr rfl) | skip)) | (refine br_le_ ?_ ?_ <;> intro hBr <;> (first | (exfalso; omega) | (exfalso; contradiction) | (exfalso; exact hBr rfl) | skip)) | (refine br_eq ?_ ?_ <;> intro hBr <;> (first | (exfalso; omega) | (exfalso; contradiction) | (exfalso; exact hBr rfl) | skip)) | (refine br_eq_ ?_ ?_ <;> intro hBr <;> (first | (exfalso; omega) | (exfalso; contradiction) | (exfalso; exact hBr rfl) | skip)) | (refine br_seq ?_ ?_ <;> intro hBr <;> (first | (exfalso; omega) | (exfalso; contradiction) | (exfalso; exact hBr rfl) | skip)) | (refine br_seq_ ?_ ?_ <;> intro hBr <;> (first | (exfalso; omega) | (exfalso; contradiction) | (exfalso; exact hBr rfl) | skip)) | (refine br_not ?_) | (refine br_not_ ?_) | (refine br_and ?_) | (refine br_and_ ?_) | (refine And.intro (by omega) ?_) | (refine ⟨_, wrap_i64 (by omega), ?_⟩) | (refine ⟨_, wrap_u64 (by omega) (by omega), ?_⟩) | (refine ⟨_, wrap_u8 (by omega) (by omega), ?_⟩) | (refine ⟨_, wrap_u32 (by omega) (by omega), ?_⟩) | (refine ⟨_, wrap_u16 (by omega) (by omega), ?_⟩) | (refine ⟨_, rfl, ?_⟩) | (exact rfl)))
  · refine S_ Try.func39 (by kernel_rfl) rfl (Nat.le_of_ble_eq_true rfl) ?_ -- G
    repeat' ((try conv => whnf) <;> (first | (refine Hold.mk ?_) | (refine And.intro (fun _ => ?_) (fun h => Bool.noConfusion h)) | (refine And.intro (fun h => Bool.noConfusion h) (fun _ => ?_)) | (refine And.intro (Nat.le_of_ble_eq_true rfl) ?_) | (refine And.intro (fun _ => ?_) (fun h => Bool.noConfusion ((beq_self_eq_true _).symm.trans h))) | (refine And.intro (fun h => Bool.noConfusion ((bne_self_eq_false _).symm.trans h)) (fun _ => ?_)) | (refine And.intro (fun h => Bool.noConfusion ((beq_self_eq_true _).symm.trans h)) (fun _ => ?_)) | (refine And.intro (fun _ => ?_) (fun h => Bool.noConfusion ((bne_self_eq_false _).symm.trans h))) | (refine ⟨_, hO, ?_⟩) | (refine ⟨_, hP, ?_⟩) | (refine ⟨_, h1, ?_⟩) | (refine ⟨_, h2, ?_⟩) | (refine ⟨_, h3, ?_⟩) | (refine ⟨_, hS, ?_⟩) | (exact True.intro) | (refine And.intro (show eqT _ _ = true by kernel_rfl) ?_) | (refine And.intro rfl ?_) | (refine And.intro (And.intro (Nat.le_of_ble_eq_true rfl) rfl) ?_) | (refine And.intro (And.intro rfl (And.intro rfl rfl)) ?_) | (exact And.intro rfl (And.intro rfl rfl)) | (exact And.intro rfl rfl) | (refine br_lt ?_ ?_ <;> intro hBr <;> (first | (exfalso; omega) | (exfalso; contradiction) | (exfalso; exact hBr rfl) | skip)) | (refine br_lt_ ?_ ?_ <;> intro hBr <;> (first | (exfalso; omega) | (exfalso; contradiction) | (exfalso; exact hBr rfl) | skip)) | (refine br_le ?_ ?_ <;> intro hBr <;> (first | (exfalso; omega) | (exfalso; contradiction) | (exfalso; exact hBr rfl) | skip)) | (refine br_le_ ?_ ?_ <;> intro hBr <;> (first | (exfalso; omega) | (exfalso; contradiction) | (exfalso; exact hBr rfl) | skip)) | (refine br_eq ?_ ?_ <;> intro hBr <;> (first | (exfalso; omega) | (exfalso; contradiction) | (exfalso; exact hBr rfl) | skip)) | (refine br_eq_ ?_ ?_ <;> intro hBr <;> (first | (exfalso; omega) | (exfalso; contradiction) | (exfalso; exact hBr rfl) | skip)) | (refine br_seq ?_ ?_ <;> intro hBr <;> (first | (exfalso; omega) | (exfalso; contradiction) | (exfalso; exact hBr rfl) | skip)) | (refine br_seq_ ?_ ?_ <;> intro hBr <;> (first | (exfalso; omega) | (exfalso; contradiction) | (exfalso; exact hBr rfl) | skip)) | (refine br_not ?_) | (refine br_not_ ?_) | (refine br_and ?_) | (refine br_and_ ?_) | (refine And.intro (by omega) ?_) | (refine ⟨_, wrap_i64 (by omega), ?_⟩) | (refine ⟨_, wrap_u64 (by omega) (by omega), ?_⟩) | (refine ⟨_, wrap_u8 (by omega) (by omega), ?_⟩) | (refine ⟨_, wrap_u32 (by omega) (by omega), ?_⟩) | (refine ⟨_, wrap_u16 (by omega) (by omega), ?_⟩) | (refine ⟨_, rfl, ?_⟩) | (exact rfl)))
theorem rropen_3 (s p : List UInt8) (m a z u : Nat) (g pl p1 p2 p3 : Int) (b : Bool) (ha : a < 256) (hz : z < 4294967296) (hu : u < 4294967296)
    (hO : SP 64 [T s] (.tup [U m, T p, Z 0])) (hP : SP 18 [U m] (.tup [U g, Z pl, B b]))
    (h1 : SP 65 [scM p 0 0, Z 1] (numM a p p1 0)) (h2 : SP 65 [scM p p1 0, Z 4] (numM z p p2 0)) (h3 : SP 65 [scM p p2 0, Z 4] (numM u p p3 0))
    (hS : SP 31 [rt g a z u] (.tup [T s, Z 0])) : SP 39 [T s] (.tup [rt g a z u, Z 0]) := by
  refine S_ Try.func39 (by kernel_rfl) rfl (Nat.le_of_ble_eq_true rfl) ?_
  show avc Try.prog SP _ _ _ _ _ _
  dsimp only [avc, startS, Array.toList, Try.f39]
  repeat' ((try conv => whnf) <;> (first | (refine Hold.mk ?_) | (refine And.intro (fun _ => ?_) (fun h => Bool.noConfusion h)) | (refine And.intro (fun h => Bool.noConfusion h) (fun _ => ?_)) | (refine And.intro (Nat.le_of_ble_eq_true rfl) ?_) | (refine And.intro (fun _ => ?_) (fun h => Bool.noConfusion ((beq_self_eq_true _).symm.trans h))) | (refine And.intro (fun h => Bool.noConfusion ((bne_self_eq_false _).symm.trans h)) (fun _ => ?_)) | (refine And.intro (fun h => Bool.noConfusion ((beq_self_eq_true _).symm.trans h)) (fun _ => ?_)) | (refine And.intro (fun _ => ?_) (fun h => Bool.noConfusion ((bne_self_eq_false _).symm.trans h))) | (refine ⟨_, hO, ?_⟩) | (refine ⟨_, hP, ?_⟩) | (refine ⟨_, h1, ?_⟩) | (refine ⟨_, h2, ?_⟩) | (refine ⟨_, h3, ?_⟩) | (refine ⟨_, hS, ?_⟩) | (exact True.intro) | (refine And.intro (show eqT _ _ = true by kernel_rfl) ?_) | (refine And.intro rfl ?_) | (refine And.intro (And.intro (Nat.le_of_ble_eq_true rfl) rfl) ?_) | (refine And.intro (And.intro rfl (And.intro rfl rfl)) ?_) | (exact And.intro rfl (And.intro rfl rfl)) | (exact And.intro rfl rfl) | (refine br_lt ?_ ?_ <;> intro hBr <;> (first | (exfalso; omega) | (exfalso; contradiction) | (exfalso; exact hBr rfl) | skip)) | (refine br_lt_ ?_ ?_ <;> intro hBr <;> (first | (exfalso; omega) | (exfalso; contradiction) | (exfalso; exact hBr rfl) | skip)) | (refine br_le ?_ ?_ <;> intro hBr <;> (first | (exfalso; omega) | (exfalso; contradiction) | (exfalso; exact hBr rfl) | skip)) | (refine br_le_ ?_ ?_ <;> intro hBr <;> (first | (exfalso; omega) | (exfalso; contradiction) | (exfalso; exact hBr rfl) | skip)) | (refine br_eq ?_ ?_ <;> intro hBr <;> (first | (exfalso; omega) | (exfalso; contradiction) | (exfalso; exact hBr rfl) | skip)) | (refine br_eq_ ?_ ?_ <;> intro hBr <;> (first | (exfalso; omega) | (exfalso; contradiction) | (exfalso; exact hBr rfl) | skip)) | (refine br_seq ?_ ?_ <;> intro hBr <;> (first | (exfalso; omega) | (exfalso; contradiction) | (exfalso; exact hBr rfl) | skip)) | (refine br_seq_ ?_ ?_ <;> intro hBr <;> (first | (exfalso; omega) | (exfalso; contradiction) | (exfalso; exact hBr rfl) | skip)) | (refine br_not ?_) | (refine br_not_ ?_) | (refine br_and ?_) | (refine br_and_ ?_) | (refine And.intro (by omega) ?_) | (refine ⟨_, wrap_i64 (by omega), ?_⟩) | (refine ⟨_, wrap_u64 (by omega) (by omega), ?_⟩) | (refine ⟨_, wrap_u8 (by omega) (by omega), ?_⟩) | (refine ⟨_, wrap_u32 (by omega) (by omega), ?_⟩) | (refine ⟨_, wrap_u16 (by omega) (by omega), ?_⟩) | (refine ⟨_, rfl, ?_⟩) | (exact rfl)))

/-! ### in plain bytes -/
/-- what stands in a payload, and where -/
def fA (p : List UInt8) : Nat := Quill.tell (p.take 1)
def fZ (p : List UInt8) : Nat := Quill.tell ((p.drop 1).take 4)
def fU (p : List UInt8) : Nat := Quill.tell ((p.drop 5).take 4)
theorem numB_at {l : List UInt8} {n : Nat} (h : l.length = n) : Quill.numB n (Quill.tell l) = l := by subst h; exact Quill.numB_tell l
theorem tell_lt (l : List UInt8) : Quill.tell l < 256 ^ l.length := by
  have h1 := Quill.tell_numB l.length (Quill.tell l)
  rw [Quill.numB_tell] at h1
  rw [h1]
  exact Nat.mod_lt _ (Nat.pow_pos (by decide))
theorem payR_f {p : List UInt8} (h : 9 ≤ p.length) : payR (fA p) (fZ p) (fU p) = p.take 9 := by
  unfold payR fA fZ fU
  rw [numB_at (by rw [List.length_take]; omega), numB_at (by rw [List.length_take, List.length_drop]; omega), numB_at (by rw [List.length_take, List.length_drop]; omega)]
  rw [show (9 : Nat) = 1 + 4 + 4 from rfl, List.take_add, List.take_add]
theorem f_payR {a z u : Nat} (ha : a < 256) (hz : z < 4294967296) (hu : u < 4294967296) (r : List UInt8) : fA (payR a z u ++ r) = a ∧ fZ (payR a z u ++ r) = z ∧ fU (payR a z u ++ r) = u := by
  have l1 := Quill.numB_length 1 a
  have l4 := Quill.numB_length 4 z
  have l5 := Quill.numB_length 4 u
  refine ⟨?_, ?_, ?_⟩
  · unfold fA payR
    rw [List.append_assoc, List.append_assoc, List.take_left' l1, Quill.tell_numB]; omega
  · unfold fZ payR
    rw [List.append_assoc, List.append_assoc, List.drop_left' l1, List.take_left' l4, Quill.tell_numB]; omega
  · unfold fU payR
    rw [List.append_assoc, List.drop_left' (by simp [l1, l4]), List.take_left' l5, Quill.tell_numB]; omega
theorem f_lt {p : List UInt8} (h : 9 ≤ p.length) : fA p < 256 ∧ fZ p < 4294967296 ∧ fU p < 4294967296 := by
  have h1 := tell_lt (p.take 1)
  have h2 := tell_lt ((p.drop 1).take 4)
  have h3 := tell_lt ((p.drop 5).take 4)
  rw [List.length_take, Nat.min_eq_left (by omega)] at h1
  rw [List.length_take, List.length_drop, Nat.min_eq_left (by omega)] at h2 h3
  exact ⟨h1, h2, h3⟩
/-- a sector that is opened, laid open -/
theorem opn_parts {s p : List UInt8} {m : Nat} (h : opn s = (m, p, 0)) : s = Quill.numB 8 m ++ p ++ Quill.numB 8 m ∧ p.length = 48 ∧ m ≠ 0 ∧ m < 18446744073709551616 := by
  unfold opn at h
  split at h
  · cases h
  rename_i hl
  have hl : s.length = 64 := by omega
  split at h
  · cases h
  rename_i he
  split at h
  · cases h
  rename_i h0
  injection h with e1 e2
  injection e2 with e2 _
  subst e1
  have he : hdM s = tlM s := by omega
  have hlt := tell_lt (s.take 8)
  rw [List.length_take, Nat.min_eq_left (by omega)] at hlt
  refine ⟨?_, by rw [← e2, List.length_take, List.length_drop]; omega, h0, hlt⟩
  have k1 : Quill.numB 8 (hdM s) = s.take 8 := numB_at (by rw [List.length_take]; omega)
  have k2 : Quill.numB 8 (tlM s) = s.drop 56 := numB_at (by rw [List.length_drop]; omega)
  rw [← he] at k2
  have k3 : (s.drop 8).take 48 ++ s.drop 56 = s.drop 8 := by
    rw [show s.drop 56 = (s.drop 8).drop 48 by rw [List.drop_drop], List.take_append_drop]
  have k4 : Quill.numB 8 (hdM s) ++ p ++ Quill.numB 8 (hdM s) = s.take 8 ++ p ++ s.drop 56 := congr (congrArg HAppend.hAppend (congrArg (· ++ p) k1)) k2
  rw [k4, ← e2, List.append_assoc, k3, List.take_append_drop]
/-- a payload that a root's may be -/
def payOk (p : List UInt8) : Prop := (p.drop 9).take 4 = Crc.four (Crc.sum (p.take 9)) ∧ ∀ i, i < 35 → byteAt (p.drop 13) i = 0
theorem zeros_of {q : List UInt8} {n : Nat} (hl : q.length = n) (h : ∀ i, i < n → byteAt q i = 0) : q = List.replicate n 0 := by
  apply List.ext_getElem?
  intro i
  by_cases hi : i < n
  · have := h i hi
    rw [byteAt_lt (by omega)] at this
    rw [List.getElem?_eq_getElem (by omega), this, List.getElem?_replicate, if_pos hi]
  · rw [List.getElem?_eq_none (by omega), List.getElem?_eq_none (by simp; omega)]
theorem pay_eq {p : List UInt8} (hl : p.length = 48) (h : payOk p) : padR (Crc.sealed (payR (fA p) (fZ p) (fU p))) = p := by
  have h0 := zeros_of (q := p.drop 13) (n := 35) (by rw [List.length_drop]; omega) h.2
  rw [padR, sealed9, payR_f (by omega), Crc.sealed, ← h.1, List.append_assoc, show (48 - 13) = 35 from rfl, ← h0]
  have k1 : (p.drop 9).take 4 ++ p.drop 13 = p.drop 9 := by
    rw [show p.drop 13 = (p.drop 9).drop 4 by rw [List.drop_drop], List.take_append_drop]
  rw [k1, List.take_append_drop]
theorem sec_eq (m : Nat) (q : List UInt8) : sec m q = Quill.numB 8 m ++ padR q ++ Quill.numB 8 m := by simp only [sec, padR, List.append_assoc]
theorem pay_ok {a z u : Nat} : payOk (padR (Crc.sealed (payR a z u))) := by
  have hl := payR_len a z u
  constructor
  · rw [padR, Crc.sealed, List.append_assoc, List.drop_left' hl, List.take_left' (Crc.four_length _), List.take_left' hl]
  · intro i hi
    rw [padR, List.drop_left' (sealed9 a z u), sealed9, byteAt_lt (by simpa using hi), List.getElem_replicate]
end Go.Proofs.Ytjfkfldlmhbnkaa.Av
