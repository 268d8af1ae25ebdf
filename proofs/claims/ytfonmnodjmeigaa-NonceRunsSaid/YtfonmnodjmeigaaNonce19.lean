/- nonce: numbers that are taken one after the other rise. No conditions. -/
import Derived.Test.YtfonmnodjmeigaaNonce17
import Derived.Test.YtfonmnodjmeigaaNonce18
namespace Go.Proofs.Ytfonmnodjmeigaa.Av
set_option maxHeartbeats 1000000
open Go Go.RowKit
set_option linter.unusedVariables false
set_option linter.unusedSimpArgs false
set_option maxRecDepth 100000

theorem texts_add (e n a b : Nat) : texts e n a ++ texts e (n + a) b = texts e n (a + b) := by
  induction b with
  | zero => simp [texts]
  | succ b ih => rw [texts_succ, ← List.append_assoc, ih, ← Nat.add_assoc, texts_succ, Nat.add_assoc n a b]
theorem texts_len (e n k : Nat) : (texts e n k).length = k := by simp [texts]
theorem texts_at {e n k j : Nat} (h : j < k) : (texts e n k)[j]? = some (T (num12 e (n + j))) := by simp [texts, h]
theorem texts_one {e n k : Nat} : ∀ v ∈ texts e n k, one1 v = true := by
  intro v hv
  obtain ⟨i, _, rfl⟩ := List.mem_map.1 hv
  rfl
/-- all numbers that are taken -/
abbrev allA (e s m k : Nat) : List AV := texts e s m ++ texts (e + 1) 0 k
def nth (e s m j : Nat) : List UInt8 := if j < m then num12 e (s + j) else num12 (e + 1) (0 + (j - m))
theorem allA_at {e s m k j : Nat} (h : j < m + k) : (allA e s m k)[j]? = some (T (nth e s m j)) := by
  unfold nth
  by_cases hj : j < m
  · rw [List.getElem?_append_left (by rw [texts_len]; exact hj), texts_at hj, if_pos hj]
  · rw [List.getElem?_append_right (by rw [texts_len]; omega), texts_len, texts_at (by omega), if_neg hj]
theorem nth_less {e s m k j : Nat} (he : e + 1 < 281474976710656) (hs : s + m < 281474976710656) (hk : k < 281474976710656) (h : j + 1 < m + k) : Op.bytesLess (bs (nth e s m j)).toList (bs (nth e s m (j + 1))).toList = true := by
  unfold nth
  by_cases h1 : j < m
  · rw [if_pos h1]
    by_cases h2 : j + 1 < m
    · rw [if_pos h2, num12_less (by omega) (by omega) (by omega) (by omega)]
      exact decide_eq_true (by omega)
    · rw [if_neg h2, num12_less (by omega) (by omega) (by omega) (by omega)]
      exact decide_eq_true (by omega)
  · rw [if_neg h1, if_neg (by omega), num12_less (by omega) (by omega) (by omega) (by omega)]
    exact decide_eq_true (by omega)
theorem room_str {k : Nat} (hk : k ≤ 1000) : room k (bytesT Try.prog 9) := by
  rw [show bytesT Try.prog 9 = 16 by kernel_rfl]; unfold room; omega
theorem mod8 (a : Nat) (ha : a < 256) : IntKind.i64.wrap ((a : Int).tmod 200) = ((a % 200 : Nat) : Int) := by
  rw [Int.tmod_eq_emod_of_nonneg (by omega), wrap_i64 (by omega)]; omega
set_option maxHeartbeats 4000000 in
theorem runs_walk (E s a b c p q r : Nat) (hE : E < 4294967296) (hs : s < 4294967296) (ha : a < 256) (hb : b < 256) (hc : c < 256) (hp : p = a % 200) (hq : q = b % 200) (hr : r = c % 200)
    (h1 : SP 43 [cnt (E + 1) s, Z p] (.tup [.own 9 p (texts (E + 1) s p), cnt (E + 1) (s + p), Z 0]))
    (h2 : SP 43 [cnt (E + 1) (s + p), Z q] (.tup [.own 9 q (texts (E + 1) (s + p) q), cnt (E + 1) (s + p + q), Z 0]))
    (h3 : SP 38 [U (E + 1 + 1 : Nat)] (.tup [cnt (E + 1 + 1) 0, Z 0]))
    (h4 : SP 43 [cnt (E + 1 + 1) 0, Z r] (.tup [.own 9 r (texts (E + 1 + 1) 0 r), cnt (E + 1 + 1) (0 + r), Z 0]))
    (h5 : SP 43 [cnt (E + 1) s, Z (p + q : Nat)] (.tup [.own 9 (p + q) (texts (E + 1) s (p + q)), cnt (E + 1) (s + (p + q)), Z 0])) :
    SP 11 [.ex (.int .u32 (E : Int)), .ex (.int .u32 (s : Int)), .ex (.agg #[.int .u8 (a : Int), .int .u8 (b : Int), .int .u8 (c : Int)])] (B true) := by
  have ma : IntKind.i64.wrap ((a : Int).tmod 200) = (p : Int) := by rw [hp]; exact mod8 a ha
  have mb : IntKind.i64.wrap ((b : Int).tmod 200) = (q : Int) := by rw [hq]; exact mod8 b hb
  have mc : IntKind.i64.wrap ((c : Int).tmod 200) = (r : Int) := by rw [hr]; exact mod8 c hc
  have pl : p < 200 := by omega
  have ql : q < 200 := by omega
  have rl : r < 200 := by omega
  clear hp hq hr
  have hs1 : sizeT Try.prog 9 = 1 := by kernel_rfl
  refine S_ Try.func11 (by kernel_rfl) rfl (Nat.le_of_ble_eq_true rfl) ?_
  show avc Try.prog SP _ _ _ _ _ _
  dsimp only [avc, startS, Array.toList, Try.f11]
  repeat' ((try conv => whnf) <;> (first | (refine Hold.mk ?_) | (refine And.intro (fun _ => ?_) (fun h => Bool.noConfusion h)) | (refine And.intro (fun h => Bool.noConfusion h) (fun _ => ?_)) | (refine And.intro (Nat.le_of_ble_eq_true rfl) ?_) | (refine And.intro (fun _ => ?_) (fun h => Bool.noConfusion ((beq_self_eq_true _).symm.trans h))) | (refine And.intro (fun h => Bool.noConfusion ((bne_self_eq_false _).symm.trans h)) (fun _ => ?_)) | (refine And.intro (fun h => Bool.noConfusion ((beq_self_eq_true _).symm.trans h)) (fun _ => ?_)) | (refine And.intro (fun _ => ?_) (fun h => Bool.noConfusion ((bne_self_eq_false _).symm.trans h))) | (refine ⟨_, h1, ?_⟩) | (refine ⟨_, h2, ?_⟩) | (refine ⟨_, h3, ?_⟩) | (refine ⟨_, h4, ?_⟩) | (refine ⟨_, h5, ?_⟩) | (refine ⟨_, ma, ?_⟩) | (refine ⟨_, mb, ?_⟩) | (refine ⟨_, mc, ?_⟩) | (exact True.intro) | (refine And.intro (show eqT _ _ = true by kernel_rfl) ?_) | (refine And.intro rfl ?_) | (refine And.intro (And.intro (Nat.le_of_ble_eq_true rfl) rfl) ?_) | (refine And.intro (And.intro rfl (And.intro rfl rfl)) ?_) | (exact And.intro rfl (And.intro rfl rfl)) | (exact And.intro rfl rfl) | (refine br_lt ?_ ?_ <;> intro hBr <;> (first | (exfalso; omega) | (exfalso; contradiction) | (exfalso; exact hBr rfl) | skip)) | (refine br_lt_ ?_ ?_ <;> intro hBr <;> (first | (exfalso; omega) | (exfalso; contradiction) | (exfalso; exact hBr rfl) | skip)) | (refine br_le ?_ ?_ <;> intro hBr <;> (first | (exfalso; omega) | (exfalso; contradiction) | (exfalso; exact hBr rfl) | skip)) | (refine br_le_ ?_ ?_ <;> intro hBr <;> (first | (exfalso; omega) | (exfalso; contradiction) | (exfalso; exact hBr rfl) | skip)) | (refine br_eq ?_ ?_ <;> intro hBr <;> (first | (exfalso; omega) | (exfalso; contradiction) | (exfalso; exact hBr rfl) | skip)) | (refine br_eq_ ?_ ?_ <;> intro hBr <;> (first | (exfalso; omega) | (exfalso; contradiction) | (exfalso; exact hBr rfl) | skip)) | (refine br_seq ?_ ?_ <;> intro hBr <;> (first | (exfalso; omega) | (exfalso; contradiction) | (exfalso; exact hBr rfl) | skip)) | (refine br_seq_ ?_ ?_ <;> intro hBr <;> (first | (exfalso; omega) | (exfalso; contradiction) | (exfalso; exact hBr rfl) | skip)) | (refine br_not ?_) | (refine br_not_ ?_) | (refine br_and ?_) | (refine br_and_ ?_) | (refine And.intro (by omega) ?_) | (refine ⟨_, wrap_i64 (by omega), ?_⟩) | (refine ⟨_, wrap_u64 (by omega) (by omega), ?_⟩) | (refine ⟨_, wrap_u8 (by omega) (by omega), ?_⟩) | (refine ⟨_, wrap_u32 (by omega) (by omega), ?_⟩) | (refine ⟨_, wrap_u16 (by omega) (by omega), ?_⟩) | (refine ⟨_, rfl, ?_⟩) | (exact rfl)))
  have hC : (([] ++ texts (E + 1) s p) ++ texts (E + 1) (s + p) q) ++ texts (E + 1 + 1) 0 r = allA (E + 1) s (p + q) r := by
    rw [List.nil_append, texts_add]
  refine ⟨false, ?_⟩
  refine And.intro ⟨room_str (by omega), by rw [hs1]; rfl, by rw [hs1]; simp [texts], texts_one⟩ ?_
  repeat' (first | (refine Hold.mk ?_) | (refine And.intro (fun _ => ?_) (fun h => Bool.noConfusion h)) | (refine And.intro (fun h => Bool.noConfusion h) (fun _ => ?_)) | (refine And.intro (Nat.le_of_ble_eq_true rfl) ?_))
  refine And.intro ⟨room_str (by omega), by rw [hs1]; simp [texts], by rw [hs1]; simp [texts], texts_one⟩ ?_
  repeat' (first | (refine Hold.mk ?_) | (refine And.intro (fun _ => ?_) (fun h => Bool.noConfusion h)) | (refine And.intro (fun h => Bool.noConfusion h) (fun _ => ?_)) | (refine And.intro (Nat.le_of_ble_eq_true rfl) ?_))
  refine And.intro ⟨room_str (by omega), by rw [hs1]; simp [texts], by rw [hs1]; simp [texts], texts_one⟩ ?_
  repeat' (first | (refine Hold.mk ?_) | (refine And.intro (fun _ => ?_) (fun h => Bool.noConfusion h)) | (refine And.intro (fun h => Bool.noConfusion h) (fun _ => ?_)) | (refine And.intro (Nat.le_of_ble_eq_true rfl) ?_))
  generalize hG : ([] ++ texts (E + 1) s p ++ texts (E + 1) (s + p) q ++ texts (E + 1 + 1) 0 r) = C
  rw [hC] at hG
  subst hG
  refine ⟨[23, 22, 19], [], fun vs bs => ∃ j : Nat, 1 ≤ j ∧ (vs = [Z j, .sl 0 (0 + p + q + r), .sl 1 (p + q)] ∧ bs = [⟨allA (E + 1) s (p + q) r, some 9, false, true⟩, ⟨texts (E + 1) s (p + q), some 9, true, true⟩]), fun vs bs => match vs with | [.ex (.int _ j), _, _] => 1000 - j.toNat | _ => 0, ?_, ?_⟩
  · exact ⟨1, by omega, rfl, rfl⟩
  rintro vs bs ⟨j, hj, rfl, rfl⟩
  repeat' (first | (refine Hold.mk ?_) | (refine And.intro (fun _ => ?_) (fun h => Bool.noConfusion h)) | (refine And.intro (fun h => Bool.noConfusion h) (fun _ => ?_)) | (refine And.intro (Nat.le_of_ble_eq_true rfl) ?_))
  refine br_lt (fun h6 => ?_) (fun h6 => ?_)
  · have hlt : j < p + q + r := by omega
    have hj1 : ((j : Int) - 1).toNat = j - 1 := by omega
    have hless := nth_less (e := E + 1) (s := s) (m := p + q) (k := r) (j := j - 1) (by omega) (by omega) (by omega) (by omega)
    rw [show j - 1 + 1 = j by omega] at hless
    refine ⟨[], [0, 0, 2, 7, 15, 0, 0, 96, 224, 511], by kernel_rfl, ?_⟩
    refine And.intro (by omega) ?_
    refine And.intro ⟨by omega, by omega⟩ ?_
    refine ⟨T (nth (E + 1) s (p + q) (j - 1)), by rw [mulS_eq, hs1, Nat.mul_one, hj1]; exact allA_at (by omega), ?_⟩
    refine And.intro ⟨by omega, by omega⟩ ?_
    refine ⟨T (nth (E + 1) s (p + q) j), by rw [mulS_eq, hs1, Nat.mul_one, Int.toNat_natCast]; exact allA_at (by omega), ?_⟩
    refine Hold.mk ?_
    refine br_not (And.intro (fun h => absurd (hless.symm.trans h) (by decide)) (fun _ => ?_))
    repeat' (first | (refine Hold.mk ?_) | (refine And.intro (fun _ => ?_) (fun h => Bool.noConfusion h)) | (refine And.intro (fun h => Bool.noConfusion h) (fun _ => ?_)) | (refine And.intro (Nat.le_of_ble_eq_true rfl) ?_))
    refine And.intro (by omega) ?_
    refine Hold.mk ?_
    exact ⟨⟨j + 1, by omega, rfl, rfl⟩, (by simp only [Int.toNat_natCast]; show 1000 - ((j : Int) + 1).toNat < _; omega)⟩
  · repeat' (first | (refine Hold.mk ?_) | (refine And.intro (fun _ => ?_) (fun h => Bool.noConfusion h)) | (refine And.intro (fun h => Bool.noConfusion h) (fun _ => ?_)) | (refine And.intro (Nat.le_of_ble_eq_true rfl) ?_))
    refine ⟨[24, 19, 22], [], fun vs bs => ∃ j : Nat, j ≤ p + q ∧ (vs = [Z j, .sl 0 (p + q), .sl 1 (0 + p + q + r)] ∧ bs = [⟨texts (E + 1) s (p + q), some 9, true, true⟩, ⟨allA (E + 1) s (p + q) r, some 9, false, true⟩]), fun vs bs => match vs with | [.ex (.int _ j), _, _] => 1000 - j.toNat | _ => 0, ?_, ?_⟩
    · exact ⟨0, by omega, rfl, rfl⟩
    rintro vs bs ⟨i, hi, rfl, rfl⟩
    repeat' (first | (refine Hold.mk ?_) | (refine And.intro (fun _ => ?_) (fun h => Bool.noConfusion h)) | (refine And.intro (fun h => Bool.noConfusion h) (fun _ => ?_)) | (refine And.intro (Nat.le_of_ble_eq_true rfl) ?_))
    refine br_lt (fun h7 => ?_) (fun h7 => ?_)
    · have hlt : i < p + q := by omega
      refine ⟨[], [0, 0, 3, 7, 0, 0, 48, 112, 255], by kernel_rfl, ?_⟩
      refine And.intro ⟨by omega, by omega⟩ ?_
      refine ⟨T (num12 (E + 1) (s + i)), by rw [mulS_eq, hs1, Nat.mul_one, Int.toNat_natCast]; exact texts_at hlt, ?_⟩
      refine And.intro ⟨by omega, by omega⟩ ?_
      refine ⟨T (num12 (E + 1) (s + i)), by rw [mulS_eq, hs1, Nat.mul_one, Int.toNat_natCast, allA_at (by omega), nth, if_pos hlt], ?_⟩
      refine Hold.mk ?_
      refine br_not (br_seq_ (fun h4 => absurd rfl h4) (fun h4 => ?_))
      repeat' (first | (refine Hold.mk ?_) | (refine And.intro (fun _ => ?_) (fun h => Bool.noConfusion h)) | (refine And.intro (fun h => Bool.noConfusion h) (fun _ => ?_)) | (refine And.intro (Nat.le_of_ble_eq_true rfl) ?_))
      refine And.intro (by omega) ?_
      refine Hold.mk ?_
      exact ⟨⟨i + 1, by omega, rfl, rfl⟩, (by simp only [Int.toNat_natCast]; show 1000 - ((i : Int) + 1).toNat < _; omega)⟩
    · repeat' ((try conv => whnf) <;> (first | (refine Hold.mk ?_) | (refine And.intro (fun _ => ?_) (fun h => Bool.noConfusion h)) | (refine And.intro (fun h => Bool.noConfusion h) (fun _ => ?_)) | (refine And.intro (Nat.le_of_ble_eq_true rfl) ?_) | (refine And.intro (fun _ => ?_) (fun h => Bool.noConfusion ((beq_self_eq_true _).symm.trans h))) | (refine And.intro (fun h => Bool.noConfusion ((bne_self_eq_false _).symm.trans h)) (fun _ => ?_)) | (refine And.intro (fun h => Bool.noConfusion ((beq_self_eq_true _).symm.trans h)) (fun _ => ?_)) | (refine And.intro (fun _ => ?_) (fun h => Bool.noConfusion ((bne_self_eq_false _).symm.trans h))) | (refine ⟨_, awake_ok, ?_⟩) | (exact True.intro) | (refine And.intro (show eqT _ _ = true by kernel_rfl) ?_) | (refine And.intro rfl ?_) | (refine And.intro (And.intro (Nat.le_of_ble_eq_true rfl) rfl) ?_) | (refine And.intro (And.intro rfl (And.intro rfl rfl)) ?_) | (exact And.intro rfl (And.intro rfl rfl)) | (exact And.intro rfl rfl) | (refine br_lt ?_ ?_ <;> intro hBr <;> (first | (exfalso; omega) | (exfalso; contradiction) | (exfalso; exact hBr rfl) | skip)) | (refine br_lt_ ?_ ?_ <;> intro hBr <;> (first | (exfalso; omega) | (exfalso; contradiction) | (exfalso; exact hBr rfl) | skip)) | (refine br_le ?_ ?_ <;> intro hBr <;> (first | (exfalso; omega) | (exfalso; contradiction) | (exfalso; exact hBr rfl) | skip)) | (refine br_le_ ?_ ?_ <;> intro hBr <;> (first | (exfalso; omega) | (exfalso; contradiction) | (exfalso; exact hBr rfl) | skip)) | (refine br_eq ?_ ?_ <;> intro hBr <;> (first | (exfalso; omega) | (exfalso; contradiction) | (exfalso; exact hBr rfl) | skip)) | (refine br_eq_ ?_ ?_ <;> intro hBr <;> (first | (exfalso; omega) | (exfalso; contradiction) | (exfalso; exact hBr rfl) | skip)) | (refine br_seq ?_ ?_ <;> intro hBr <;> (first | (exfalso; omega) | (exfalso; contradiction) | (exfalso; exact hBr rfl) | skip)) | (refine br_seq_ ?_ ?_ <;> intro hBr <;> (first | (exfalso; omega) | (exfalso; contradiction) | (exfalso; exact hBr rfl) | skip)) | (refine br_not ?_) | (refine br_not_ ?_) | (refine br_and ?_) | (refine br_and_ ?_) | (refine And.intro (by omega) ?_) | (refine ⟨_, wrap_i64 (by omega), ?_⟩) | (refine ⟨_, wrap_u64 (by omega) (by omega), ?_⟩) | (refine ⟨_, wrap_u8 (by omega) (by omega), ?_⟩) | (refine ⟨_, wrap_u32 (by omega) (by omega), ?_⟩) | (refine ⟨_, wrap_u16 (by omega) (by omega), ?_⟩) | (refine ⟨_, rfl, ?_⟩) | (exact rfl)))
theorem runs_all (E s a b c : Nat) (hE : E < 4294967296) (hs : s < 4294967296) (ha : a < 256) (hb : b < 256) (hc : c < 256) :
    SP 11 [.ex (.int .u32 (E : Int)), .ex (.int .u32 (s : Int)), .ex (.agg #[.int .u8 (a : Int), .int .u8 (b : Int), .int .u8 (c : Int)])] (B true) := by
  have k1 : Okc (E + 1) s := by unfold Okc; omega
  have k2 : Okc (E + 1) (s + a % 200) := by unfold Okc; omega
  have k3 : Okc (E + 1 + 1) 0 := by unfold Okc; omega
  exact runs_walk E s a b c _ _ _ hE hs ha hb hc rfl rfl rfl (many_yes (E + 1) s (a % 200) k1 (by omega) (by omega)) (many_yes (E + 1) (s + a % 200) (b % 200) k2 (by omega) (by omega))
    (begin_yes (E + 1 + 1) k3) (many_yes (E + 1 + 1) 0 (c % 200) k3 (by omega) (by omega)) (many_yes (E + 1) s (a % 200 + b % 200) k1 (by omega) (by omega))
theorem cells_u8s {cs : Array Value} (h : CellsOk [.int .u8, .int .u8, .int .u8] cs.toList) : ∃ a b c : Nat, a < 256 ∧ b < 256 ∧ c < 256 ∧ cs = #[.int .u8 (a : Int), .int .u8 (b : Int), .int .u8 (c : Int)] := by
  obtain ⟨v0, r0, e0, ⟨k0, rfl, hk0⟩, hr0⟩ := h.cons_
  obtain ⟨v1, r1, e1, ⟨k1, rfl, hk1⟩, hr1⟩ := hr0.cons_
  obtain ⟨v2, r2, e2, ⟨k2, rfl, hk2⟩, hr2⟩ := hr1.cons_
  have e3 := hr2.empty_
  subst e3 e2 e1
  have f0 := bounds_u8 hk0
  have f1 := bounds_u8 hk1
  have f2 := bounds_u8 hk2
  refine ⟨k0.toNat, k1.toNat, k2.toNat, by omega, by omega, by omega, ?_⟩
  rw [Int.toNat_of_nonneg (by omega), Int.toNat_of_nonneg (by omega), Int.toNat_of_nonneg (by omega)]
  apply Array.ext'
  rw [e0]
theorem nonceRuns_walk (E s : BitVec 32) (a : Array Value) (w : World) (ha : CellsOk [.int .u8, .int .u8, .int .u8] a.toList) :
    Calls Try.prog 11 #[.int .u32 (E.toNat : Int), .int .u32 (s.toNat : Int), .agg a] w fun e w' => e = .returned (.bool true) ∧ Below w.heap.size w w' := by
  obtain ⟨a, b, c, h1, h2, h3, rfl⟩ := cells_u8s ha
  exact calls_of (vs := [_, _, _]) (runs_all E.toNat s.toNat a b c (by have := E.isLt; omega) (by have := s.isLt; omega) h1 h2 h3) w
end Go.Proofs.Ytfonmnodjmeigaa.Av
