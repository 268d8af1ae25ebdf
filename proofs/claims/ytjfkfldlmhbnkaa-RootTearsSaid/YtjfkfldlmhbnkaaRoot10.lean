/- root: the law that roots come back holds of all roots and bytes. No conditions but that numbers have their bits. -/
import Derived.Test.YtjfkfldlmhbnkaaRoot9
import Derived.Test.YtjfkfldlmhbnkaaRoot8
namespace Go.Proofs.Ytjfkfldlmhbnkaa.Av
open Go Go.RowKit
set_option linter.unusedVariables false
set_option linter.unusedSimpArgs false
set_option maxRecDepth 100000

theorem sec_mid {m : Nat} {q : List UInt8} (hq : q.length ≤ 48) : ((sec m q).drop 8).take 48 = padR q := by
  rw [sec_eq, List.append_assoc, List.drop_left' (Quill.numB_length 8 m), List.take_left' (pad_len hq)]
theorem set_ne {l : List UInt8} {i : Nat} {y : UInt8} (hi : i < l.length) (h : l.set i y = l) : l[i] = y := by
  have h1 : (l.set i y)[i]? = some y := by rw [List.getElem?_set]; simp [hi]
  rw [h, List.getElem?_eq_getElem hi] at h1
  injection h1
theorem take_sealed (q : List UInt8) (h : q.length = 9) : (padR (Crc.sealed q)).take 13 = Crc.sealed q := by
  rw [padR, List.take_left' (by rw [Crc.sealed_length, h])]
theorem root_other {g a z u i : Nat} {y : UInt8} (h : OkR g a z) (hi : i < (rootS g a z u).length) (hy : (rootS g a z u)[i] ≠ y) : NoR ((rootS g a z u).set i y) := by
  intro g' a' z' u' h' hu' he
  have hl := root_len (g := g) (a := a) (z := z) (u := u)
  have hl' := root_len (g := g') (a := a') (z := z') (u := u')
  have q1 := sealed9 a z u
  have q2 := sealed9 a' z' u'
  have t1 : (rootS g a z u).take 8 = Quill.numB 8 (g * 1048576 + 1) := sec_take _ _
  have d1 : (rootS g a z u).drop 56 = Quill.numB 8 (g * 1048576 + 1) := sec_drop _ _ (by omega)
  have m1 : ((rootS g a z u).drop 8).take 48 = padR (Crc.sealed (payR a z u)) := sec_mid (by omega)
  have t2 : (rootS g' a' z' u').take 8 = Quill.numB 8 (g' * 1048576 + 1) := sec_take _ _
  have d2 : (rootS g' a' z' u').drop 56 = Quill.numB 8 (g' * 1048576 + 1) := sec_drop _ _ (by omega)
  have m2 : ((rootS g' a' z' u').drop 8).take 48 = padR (Crc.sealed (payR a' z' u')) := sec_mid (by omega)
  rw [← he] at t2 d2 m2
  generalize rootS g a z u = s at *
  by_cases c1 : i < 8
  · rw [List.drop_set_of_lt (by omega), d1] at d2
    rw [List.take_set, t1, ← d2, ← t1] at t2
    have := set_ne (l := s.take 8) (by rw [List.length_take]; omega) t2
    rw [List.getElem_take] at this
    exact hy this
  · by_cases c2 : i < 56
    · rw [List.drop_set, if_neg (by omega), List.take_set, m1] at m2
      have hP := pad_len (q := Crc.sealed (payR a z u)) (by omega)
      have hPi : (padR (Crc.sealed (payR a z u)))[i - 8]'(by omega) = s[i] := by
        have e : (padR (Crc.sealed (payR a z u)))[i - 8]? = s[i]? := by
          rw [← m1, List.getElem?_take_of_lt (by omega), List.getElem?_drop, show 8 + (i - 8) = i by omega]
        rw [List.getElem?_eq_getElem (by omega), List.getElem?_eq_getElem (by omega)] at e
        injection e
      have k := congrArg (List.take 13) m2
      rw [List.take_set, take_sealed _ (payR_len a z u), take_sealed _ (payR_len a' z' u')] at k
      by_cases c3 : i - 8 < 13
      · have hlt : i - 8 < (Crc.sealed (payR a z u)).length := by omega
        have o := Crc.opened_turned (payR a z u) (i - 8) y hlt (by
          intro hh
          apply hy
          rw [← hh, ← hPi]
          simp only [padR]
          rw [List.getElem_append_left hlt])
        rw [k, Crc.opened_sealed] at o
        injection o with _ o
        cases o
      · rw [List.set_eq_of_length_le (by omega)] at k
        have e : padR (Crc.sealed (payR a' z' u')) = padR (Crc.sealed (payR a z u)) := by rw [k]
        rw [e] at m2
        have := set_ne (by omega) m2
        exact hy (hPi ▸ this)
    · rw [List.take_set_of_le (by omega), t1] at t2
      rw [List.drop_set, if_neg (by omega), d1, ← t2, ← d1] at d2
      have := set_ne (l := s.drop 56) (by rw [List.length_drop]; omega) d2
      rw [List.getElem_drop] at this
      have e : s[56 + (i - 56)]'(by omega) = s[i] := by congr 1; omega
      exact hy (e ▸ this)
/-- two roots have one sector just if they are the same -/
theorem root_same {g a z u g' a' z' u' : Nat} (h : OkR g a z) (h' : OkR g' a' z') (hu : u < 4294967296) (hu' : u' < 4294967296) (he : rootS g a z u = rootS g' a' z' u') : g = g' ∧ a = a' ∧ z = z' ∧ u = u' := by
  have n1 := h.nat
  have n2 := h'.nat
  have o1 := opn_root (u := u) h
  have o2 := opn_root (u := u') h'
  rw [he, o2] at o1
  injection o1 with e1 e2
  injection e2 with e2 _
  have f1 := f_payR (a := a) (z := z) (u := u) (by omega) (by omega) hu (Crc.four (Crc.sum (payR a z u)) ++ List.replicate (48 - (Crc.sealed (payR a z u)).length) 0)
  rw [show payR a z u ++ (Crc.four (Crc.sum (payR a z u)) ++ List.replicate (48 - (Crc.sealed (payR a z u)).length) 0) = padR (Crc.sealed (payR a z u)) by rw [padR, ← List.append_assoc]; rfl] at f1
  have f2 := f_payR (a := a') (z := z') (u := u') (by omega) (by omega) hu' (Crc.four (Crc.sum (payR a' z' u')) ++ List.replicate (48 - (Crc.sealed (payR a' z' u')).length) 0)
  rw [show payR a' z' u' ++ (Crc.four (Crc.sum (payR a' z' u')) ++ List.replicate (48 - (Crc.sealed (payR a' z' u')).length) 0) = padR (Crc.sealed (payR a' z' u')) by rw [padR, ← List.append_assoc]; rfl] at f2
  rw [e2, f1.1, f1.2.1, f1.2.2] at f2
  omega
theorem newB_eq (b : UInt8) (n : Nat) (hn : n < 256) : ∃ y : UInt8, newB b n = (y.toNat : Int) ∧ b ≠ y := by
  have h1 : (n : Int).tmod 255 = ((n % 255 : Nat) : Int) := by rw [Int.tmod_eq_emod_of_nonneg (by omega)]; omega
  have hd : 1 + n % 255 < 256 := by omega
  have h2 : IntKind.u8.wrap (1 + (n : Int).tmod 255) = ((UInt8.ofNat (1 + n % 255)).toNat : Int) := by
    rw [h1, wrap_u8 (by omega) (by omega), UInt8.toNat_ofNat_of_lt' (by show _ < 256; omega)]; omega
  refine ⟨b ^^^ UInt8.ofNat (1 + n % 255), ?_, ?_⟩
  · show IntKind.u8.wrap ((BitVec.ofInt IntKind.u8.bits (b.toNat : Int) ^^^ BitVec.ofInt IntKind.u8.bits (IntKind.u8.wrap (1 + (n : Int).tmod 255))).toNat : Int) = _
    rw [h2]
    show bits .xor .u8 (b.toNat : Int) ((UInt8.ofNat (1 + n % 255)).toNat : Int) = _
    rw [u8_xor_nat _ _ (UInt8.toNat_lt _) (UInt8.toNat_lt _), UInt8.toNat_xor]
  · intro h
    have h3 : b ^^^ b = b ^^^ (b ^^^ UInt8.ofNat (1 + n % 255)) := congrArg (b ^^^ ·) h
    rw [UInt8.xor_self, ← UInt8.xor_assoc, UInt8.xor_self, UInt8.zero_xor] at h3
    have h4 := congrArg UInt8.toNat h3
    rw [UInt8.toNat_ofNat_of_lt' (by show _ < 256; omega)] at h4
    have : (0 : UInt8).toNat = 0 := rfl
    omega
theorem set_bytes (l : List UInt8) (i : Nat) (y : UInt8) : setL (bytesA l) i [.ex (.int .u8 (y.toNat : Int))] = bytesA (l.set i y) := by
  show (bytesA l).set i _ = _
  unfold bytesA
  rw [List.map_set]
  rfl
theorem back_all16 (g a z u g' a' z' u' : Int) (n0 n1 : Nat) (h2 : 0 ≤ u) (h3 : u < 4294967296) (h2' : 0 ≤ u') (h3' : u' < 4294967296) (hn0 : n0 < 256) (hn1 : n1 < 256) : SP 10 [rt g a z u, rt g' a' z' u', two8 n0 n1] (B true) := by
  by_cases h : OkR g a z
  · obtain ⟨g, a, z, rfl, rfl, rfl⟩ := okR_nat h
    have hu : u = (u.toNat : Int) := by omega
    generalize u.toNat = v at hu
    subst hu
    by_cases h' : OkR g' a' z'
    · obtain ⟨g', a', z', rfl, rfl, rfl⟩ := okR_nat h'
      have hu : u' = (u'.toNat : Int) := by omega
      generalize u'.toNat = v' at hu
      subst hu
      have hl := root_len (g := g) (a := a) (z := z) (u := v)
      have hi : n0 % 64 < (rootS g a z v).length := by omega
      obtain ⟨y, hy1, hy2⟩ := newB_eq (byteAt (rootS g a z v) (n0 % 64)) n1 hn1
      have hno : NoR ((rootS g a z v).set (n0 % 64) y) := root_other h hi (by rw [byteAt_lt hi] at hy2; exact hy2)
      have hidx : mulS ((n0 : Int) % 64).toNat (sizeT Try.prog 5) = n0 % 64 := by rw [size_u8, mulS_eq, Nat.mul_one]; omega
      refine rback_yes g a z v g' a' z' v' n0 n1 _ _ ((rootS g a z v).set (n0 % 64) y) (erR ((rootS g a z v).set (n0 % 64) y)) (by rw [bs_size]; exact hl) (byteAt (rootS g a z v) (n0 % 64)) ?_ ?_ (by rw [bs_size, List.length_set]) ?_ hn0 hn1 (rseal_ok h (by omega)) (rseal_ok h' (by omega)) (rootopen_yes h (by omega)) (er_ne _) ?_ (rootopen_no hno)
      · have := q_at hi
        rw [show ((n0 % 64 : Nat) : Int).toNat = ((n0 : Int) % 64).toNat by omega] at this
        exact this
      · rw [hy1, hidx, set_bytes]
      · rw [hidx, bytesA_length]; omega
      · rw [bsl_, bsl_, beq_iff_eq]
        by_cases he : rootS g a z v = rootS g' a' z' v'
        · obtain ⟨rfl, rfl, rfl, rfl⟩ := root_same h h' (by omega) (by omega) he
          simp
        · rw [beq_eq_false_iff_ne.mpr he]
          symm
          rw [Bool.eq_false_iff]
          intro hh
          simp only [Bool.and_eq_true, beq_iff_eq, Bool.and_true] at hh
          apply he
          obtain ⟨e1, e2, e3, e4⟩ := hh
          have e1 : g = g' := by omega
          have e2 : a = a' := by omega
          have e3 : z = z' := by omega
          have e4 : v = v' := by omega
          rw [e1, e2, e3, e4]
    · exact rback_noa _ _ _ _ _ _ _ _ n0 n1 _ [] (rseal_ok h (by omega)) (rseal_no h')
  · by_cases h' : OkR g' a' z'
    · obtain ⟨g', a', z', rfl, rfl, rfl⟩ := okR_nat h'
      have hu : u' = (u'.toNat : Int) := by omega
      generalize u'.toNat = v' at hu
      subst hu
      exact rback_nob _ _ _ _ _ _ _ _ n0 n1 [] _ (rseal_no h) (rseal_ok h' (by omega))
    · exact rback_noc _ _ _ _ _ _ _ _ n0 n1 [] [] (rseal_no h) (rseal_no h')
theorem cells_bb {cs : Array Value} (h : CellsOk [.int .u8, .int .u8] cs.toList) : ∃ a b : Nat, a < 256 ∧ b < 256 ∧ cs = #[.int .u8 a, .int .u8 b] := by
  obtain ⟨v0, r0, e0, ⟨k0, rfl, hk0⟩, hr0⟩ := h.cons_
  obtain ⟨v1, r1, e1, ⟨k1, rfl, hk1⟩, hr1⟩ := hr0.cons_
  have e2 := hr1.empty_
  subst e2 e1
  have b0 := bounds_u8 hk0
  have b1 := bounds_u8 hk1
  refine ⟨k0.toNat, k1.toNat, by omega, by omega, ?_⟩
  rw [Int.toNat_of_nonneg b0.1, Int.toNat_of_nonneg b1.1]
  apply Array.ext'
  rw [e0]
theorem rootBack_walk (a b c : Array Value) (w : World) (ha : CellsOk [.int .u64, .int .i64, .int .i64, .int .u32] a.toList) (hb : CellsOk [.int .u64, .int .i64, .int .i64, .int .u32] b.toList) (hc : CellsOk [.int .u8, .int .u8] c.toList) :
    Calls Try.prog 10 #[.agg a, .agg b, .agg c] w fun e w' => e = .returned (.bool true) ∧ Below w.heap.size w w' := by
  obtain ⟨g, a, z, u, h0, h1, h2, h3, rfl⟩ := cells_root ha
  obtain ⟨g', a', z', u', h0', h1', h2', h3', rfl⟩ := cells_root hb
  obtain ⟨n0, n1, b0, b1, rfl⟩ := cells_bb hc
  refine calls_at (avs := [rt g a z u, rt g' a' z' u', two8 n0 n1]) (back_all16 g a z u g' a' z' u' n0 n1 h2 h3 h2' h3' b0 b1) w (fun _ _ => False) (fun _ _ h => h.elim) _ rfl fun j hj => ?_
  match j, hj with
  | 0, _ => exact .ex _ _
  | 1, _ => exact .ex _ _
  | 2, _ => exact .ex _ _
end Go.Proofs.Ytjfkfldlmhbnkaa.Av
