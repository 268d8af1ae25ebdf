/- quill: the reference's scanning, walked: where a Scan stands, a number. -/
import Derived.Test.YtbaedepmogkkeaaGreatScanWalks1
namespace Go.Proofs.YtbaedepmogkkeaaGreat
set_option linter.unusedSimpArgs false
set_option linter.unusedVariables false
set_option maxRecDepth 100000
open Go.RowKit

set_option maxHeartbeats 400000 in
theorem rstands_yes (t : List UInt8) (p b : Int) (w : World) (h0 : 0 ≤ p) (h1 : p ≤ (t.length : Int)) :
    Calls Tryz.prog 187 #[.agg #[.string (bs t), .int .i64 p, .int .i64 b]] w fun e w' => e = .returned (.bool true) ∧ Below w.heap.size w w' := by
  go_enter Tryz.func187, Tryz.ntmps187
  go_wp2
  go_ret
  exact ⟨rfl, (Below.refl _ _).alloc (Nat.le_refl _) _⟩
set_option maxHeartbeats 400000 in
theorem rstands_no (t : List UInt8) (p b : Int) (w : World) (h : p < 0 ∨ (t.length : Int) < p) (hl : t.length ≤ 9223372036854775807) :
    Calls Tryz.prog 187 #[.agg #[.string (bs t), .int .i64 p, .int .i64 b]] w fun e w' => e = .returned (.bool false) ∧ Below w.heap.size w w' := by
  by_cases h0 : 0 ≤ p
  · have h2 : (t.length : Int) < p := by omega
    clear h
    go_enter Tryz.func187, Tryz.ntmps187
    go_wp2
    go_ret
    exact ⟨by simp; try omega, (Below.refl _ _).alloc (Nat.le_refl _) _⟩
  · have h2 : decide (0 ≤ p) = false := by simpa using h0
    clear h
    go_enter Tryz.func187, Tryz.ntmps187
    go_wp2
    go_ret
    exact ⟨by first | rfl | (simp; omega), (Below.refl _ _).alloc (Nat.le_refl _) _⟩
set_option maxHeartbeats 400000 in
theorem rbad_any (t : List UInt8) (p b e : Int) (w : World) :
    Calls Tryz.prog 188 #[.agg #[.string (bs t), .int .i64 p, .int .i64 b], .int .i64 e] w fun r w' => r = .returned (.agg #[.string (bs t), .int .i64 p, .int .i64 e]) ∧ Below w.heap.size w w' := by
  go_enter Tryz.func188, Tryz.ntmps188
  go_wp2
  exact bodyPost_ret (v := .agg #[.string (bs t), .int .i64 p, .int .i64 e]) (by simp [results, Tryz.results188, go_sem]) rfl ⟨rfl, ((Below.refl _ _).alloc (Nat.le_refl _) _).alloc (by simp) _⟩


theorem infoRs : (Tryz.prog.info? 219).map (·.size) = some 3 := by kernel_rfl
theorem byteAt_drop (t : List UInt8) (p k : Nat) : byteAt (t.drop p) k = byteAt t (p + k) := by
  simp [byteAt, List.getElem?_drop]
theorem tell_at (t : List UInt8) (p k : Nat) (h : p + k < t.length) :
    Quill.tell ((t.drop p).take (k + 1)) = Quill.tell ((t.drop p).take k) * 256 + (byteAt t (p + k)).toNat := by
  rw [take_snoc _ k (by rw [List.length_drop]; omega), Quill.tell_snoc, byteAt_drop]
theorem tell_small (l : List UInt8) (k : Nat) (hk : k ≤ 7) : Quill.tell (l.take k) < 72057594037927936 := by
  have h := Quill.tell_lt (l.take k)
  have h2 : (l.take k).length ≤ 7 := by rw [List.length_take]; omega
  have hp : 256 ^ (l.take k).length ≤ 256 ^ 7 := Nat.pow_le_pow_right (by omega) h2
  exact Nat.lt_of_lt_of_le h hp

set_option maxHeartbeats 400000 in
theorem rnum_bad (t : List UInt8) (p b size : Int) (w : World) (hb : (b != 0) = true) :
    Calls Tryz.prog 135 #[.agg #[.string (bs t), .int .i64 p, .int .i64 b], .int .i64 size] w (RetNS w 0 t p b) := by
  go_enter Tryz.func135, Tryz.ntmps135
  go_wp2_with fail
  go_region
  go_wp2_with fail
  exact bodyPost_ret (results_tmp_row rfl _ _ (w.heap.size + 1) 219 _ _ rfl (Blk.new2 w _ _ _) Tryz.underlying219 rfl infoRs) rfl ⟨rfl, (((Below.refl _ _).alloc (Nat.le_refl _) _).alloc (by simp) _).drew⟩



set_option maxRecDepth 100000 in
set_option maxHeartbeats 400000 in
theorem rnum_any (t : List UInt8) (p size : Nat) (w : World) (h1 : p + size ≤ t.length) (hs1 : 1 ≤ size) (hs8 : size ≤ 8) (hl : t.length ≤ 70368744177664) :
    Calls Tryz.prog 135 #[.agg #[.string (bs t), .int .i64 p, .int .i64 0], .int .i64 size] w (RetNS w (Quill.tell ((t.drop p).take size)) t ((p + size : Nat) : Int) 0) := by
  go_enter Tryz.func135, Tryz.ntmps135
  go_wp2_with fail
  refine (rstands_yes _ _ _ _ (by omega) (by omega)).mono ?_; rintro e w1 ⟨rfl, hb1⟩
  obtain ⟨k0, k1, hb, hz⟩ := two_boxes hb1
  clear hb1
  have c0 := Blk.c3 k0
  have c1 := Blk.c3 k1
  have HK := Lib.hid (And.intro k1 hb); clear k0 k1 hb
  go_wp2_with fail
  go_loop [6, 7] (fun n i => ∃ k : Nat, k ≤ size ∧ i = .int .i64 k ∧ n = .int .u64 (Quill.tell ((t.drop p).take k) : Nat)) (fun _ i => size - (intOf i).toNat)
  case atStart => exact ⟨0, by omega, rfl, rfl⟩
  case round =>
    obtain ⟨k, hk, rfl, rfl⟩ := hrel
    by_cases hlt : k < size
    · have hki : (k : Int) < (size : Int) := by omega
      have hT := tell_small (t.drop p) k (by omega)
      have hS := Lib.hid (tell_at t p k (by omega))
      obtain ⟨T, hTe⟩ : ∃ T, T = Quill.tell ((t.drop p).take k) := ⟨_, rfl⟩
      rw [← hTe] at hT hS ⊢
      have HTe := Lib.hid hTe; clear hTe
      have hbt := (byteAt t (p + k)).toNat_lt
      go_wp2_with fail
      go_round
      case rel => exact ⟨k + 1, by omega, by go_num, by rw [hS.out]; first | rfl | exact val_of (by omega) | go_num⟩
      case measure => simp [intOf]; omega
    · obtain rfl : k = size := by omega
      go_wp2_with fail
      go_region
      go_wp2_with fail
      have hB : Blk _ (w.heap.size + 1) 219 #[.string (bs t), .int .i64 ((p : Int) + (k : Int)), .int .i64 0] :=
        (((Blk.set HK.out.1 0 (.string (bs t))).set 1 (.int .i64 ((p : Int) + (k : Int)))).set 2 (.int .i64 0)).drew
      refine bodyPost_ret (results_tmp_row rfl _ _ (w.heap.size + 1) 219 _ _ rfl hB Tryz.underlying219 rfl infoRs) rfl ⟨?_, ?_⟩
      · show Ending.returned (.tuple #[.int .u64 _, _]) = _
        rw [Int.natCast_add]
      · exact (((HK.out.2.setCell (p := ⟨w.heap.size + 1, 0, none⟩) (by simp) _).setCell (p := ⟨w.heap.size + 1, 1, none⟩) (by simp) _).setCell (p := ⟨w.heap.size + 1, 2, none⟩) (by simp) _).drew

set_option maxRecDepth 100000 in
set_option maxHeartbeats 400000 in
theorem rnum_arg (t : List UInt8) (p size : Int) (w : World) (h : (p < 0 ∨ (t.length : Int) < p) ∨ (size < 1 ∨ 8 < size)) (hl : t.length ≤ 9223372036854775807) :
    Calls Tryz.prog 135 #[.agg #[.string (bs t), .int .i64 p, .int .i64 0], .int .i64 size] w (RetNS w 0 t p 2) := by
  have HH := Lib.hid h; clear h
  by_cases hst : p < 0 ∨ (t.length : Int) < p
  · have HS := Lib.hid hst; clear hst
    go_enter Tryz.func135, Tryz.ntmps135
    go_wp2_with fail
    refine (rstands_no _ _ _ _ HS.out hl).mono ?_; rintro e w1 ⟨rfl, hb1⟩
    obtain ⟨k0, k1, hb, hz⟩ := two_boxes hb1
    clear hb1
    have c0 := Blk.c3 k0
    have HK := Lib.hid (And.intro k0 (And.intro k1 hb)); clear k0 k1 hb
    go_wp2_with fail
    refine (rbad_any _ _ _ _ _).mono ?_; rintro e w2 ⟨rfl, hb2⟩
    have k1 : Blk w2 (w.heap.size + 1) _ _ := Blk.below HK.out.2.1 hb2 (by omega)
    have c1 := Blk.c3 k1
    have hb := HK.out.2.2.trans (hb2.mono (by omega))
    clear c0 hb2 HK
    have HK := Lib.hid (And.intro k1 hb); clear k1 hb
    go_wp2_with fail
    have hB : Blk _ (w.heap.size + 1) 219 #[.string (bs t), .int .i64 p, .int .i64 2] := ((HK.out.1.set 0 (.string (bs t))).set 1 (.int .i64 p)).set 2 (.int .i64 2)
    exact bodyPost_ret (results_tmp_row rfl _ _ (w.heap.size + 1) 219 _ _ rfl hB Tryz.underlying219 rfl infoRs) rfl ⟨rfl, ((HK.out.2.setCell (p := ⟨w.heap.size + 1, 0, none⟩) (by simp) _).setCell (p := ⟨w.heap.size + 1, 1, none⟩) (by simp) _).setCell (p := ⟨w.heap.size + 1, 2, none⟩) (by simp) _⟩
  · have hst' : 0 ≤ p ∧ p ≤ (t.length : Int) := by omega
    have hsz : size < 1 ∨ 8 < size := by rcases HH.out with h | h
                                         · exact absurd h hst
                                         · exact h
    clear hst
    by_cases hs : size < 1
    · clear hsz
      go_enter Tryz.func135, Tryz.ntmps135
      go_wp2_with fail
      refine (rstands_yes _ _ _ _ hst'.1 hst'.2).mono ?_; rintro e w1 ⟨rfl, hb1⟩
      obtain ⟨k0, k1, hb, hz⟩ := two_boxes hb1
      clear hb1
      have c0 := Blk.c3 k0
      have HK := Lib.hid (And.intro k0 (And.intro k1 hb)); clear k0 k1 hb
      go_wp2_with fail
      refine (rbad_any _ _ _ _ _).mono ?_; rintro e w2 ⟨rfl, hb2⟩
      have k1 : Blk w2 (w.heap.size + 1) _ _ := Blk.below HK.out.2.1 hb2 (by omega)
      have c1 := Blk.c3 k1
      have hb := HK.out.2.2.trans (hb2.mono (by omega))
      clear c0 hb2 HK
      have HK := Lib.hid (And.intro k1 hb); clear k1 hb
      go_wp2_with fail
      have hB : Blk _ (w.heap.size + 1) 219 #[.string (bs t), .int .i64 p, .int .i64 2] := ((HK.out.1.set 0 (.string (bs t))).set 1 (.int .i64 p)).set 2 (.int .i64 2)
      exact bodyPost_ret (results_tmp_row rfl _ _ (w.heap.size + 1) 219 _ _ rfl hB Tryz.underlying219 rfl infoRs) rfl ⟨rfl, ((HK.out.2.setCell (p := ⟨w.heap.size + 1, 0, none⟩) (by simp) _).setCell (p := ⟨w.heap.size + 1, 1, none⟩) (by simp) _).setCell (p := ⟨w.heap.size + 1, 2, none⟩) (by simp) _⟩
    · have hs2 : 8 < size := by omega
      have hs3 : 1 ≤ size := by omega
      clear hsz hs
      go_enter Tryz.func135, Tryz.ntmps135
      go_wp2_with fail
      refine (rstands_yes _ _ _ _ hst'.1 hst'.2).mono ?_; rintro e w1 ⟨rfl, hb1⟩
      obtain ⟨k0, k1, hb, hz⟩ := two_boxes hb1
      clear hb1
      have c0 := Blk.c3 k0
      have HK := Lib.hid (And.intro k0 (And.intro k1 hb)); clear k0 k1 hb
      go_wp2_with fail
      refine (rbad_any _ _ _ _ _).mono ?_; rintro e w2 ⟨rfl, hb2⟩
      have k1 : Blk w2 (w.heap.size + 1) _ _ := Blk.below HK.out.2.1 hb2 (by omega)
      have c1 := Blk.c3 k1
      have hb := HK.out.2.2.trans (hb2.mono (by omega))
      clear c0 hb2 HK
      have HK := Lib.hid (And.intro k1 hb); clear k1 hb
      go_wp2_with fail
      have hB : Blk _ (w.heap.size + 1) 219 #[.string (bs t), .int .i64 p, .int .i64 2] := ((HK.out.1.set 0 (.string (bs t))).set 1 (.int .i64 p)).set 2 (.int .i64 2)
      exact bodyPost_ret (results_tmp_row rfl _ _ (w.heap.size + 1) 219 _ _ rfl hB Tryz.underlying219 rfl infoRs) rfl ⟨rfl, ((HK.out.2.setCell (p := ⟨w.heap.size + 1, 0, none⟩) (by simp) _).setCell (p := ⟨w.heap.size + 1, 1, none⟩) (by simp) _).setCell (p := ⟨w.heap.size + 1, 2, none⟩) (by simp) _⟩

set_option maxRecDepth 100000 in
set_option maxHeartbeats 400000 in
theorem rnum_short (t : List UInt8) (p size : Int) (w : World) (h0 : 0 ≤ p) (h1 : p ≤ (t.length : Int)) (hs1 : 1 ≤ size) (hs8 : size ≤ 8) (h : (t.length : Int) - p < size) (hl : t.length ≤ 9223372036854775807) :
    Calls Tryz.prog 135 #[.agg #[.string (bs t), .int .i64 p, .int .i64 0], .int .i64 size] w (RetNS w 0 t p 3) := by
  go_enter Tryz.func135, Tryz.ntmps135
  go_wp2_with fail
  refine (rstands_yes _ _ _ _ h0 h1).mono ?_; rintro e w1 ⟨rfl, hb1⟩
  obtain ⟨k0, k1, hb, hz⟩ := two_boxes hb1
  clear hb1
  have c0 := Blk.c3 k0
  have HK := Lib.hid (And.intro k0 (And.intro k1 hb)); clear k0 k1 hb
  go_wp2_with fail
  refine (rbad_any _ _ _ _ _).mono ?_; rintro e w3 ⟨rfl, hb3⟩
  have k1 : Blk w3 (w.heap.size + 1) _ _ := Blk.below HK.out.2.1 hb3 (by omega)
  have c1 := Blk.c3 k1
  have hb := HK.out.2.2.trans (hb3.mono (by omega))
  clear c0 hb3 HK
  have HK := Lib.hid (And.intro k1 hb); clear k1 hb
  go_wp2_with fail
  have hB : Blk _ (w.heap.size + 1) 219 #[.string (bs t), .int .i64 p, .int .i64 3] := ((HK.out.1.set 0 (.string (bs t))).set 1 (.int .i64 p)).set 2 (.int .i64 3)
  exact bodyPost_ret (results_tmp_row rfl _ _ (w.heap.size + 1) 219 _ _ rfl hB Tryz.underlying219 rfl infoRs) rfl ⟨rfl, ((HK.out.2.setCell (p := ⟨w.heap.size + 1, 0, none⟩) (by simp) _).setCell (p := ⟨w.heap.size + 1, 1, none⟩) (by simp) _).setCell (p := ⟨w.heap.size + 1, 2, none⟩) (by simp) _⟩

/-- TakeNum is the plain num. -/
theorem rnum (s : Quill.Sc) (size : Int) (w : World) (hl : s.text.length ≤ 70368744177664) :
    Calls Tryz.prog 135 #[.agg #[.string (bs s.text), .int .i64 s.pos, .int .i64 s.bad], .int .i64 size] w (RetNS w (s.num size).1 s.text (s.num size).2.pos (s.num size).2.bad) := by
  obtain ⟨t, p, b⟩ := s
  simp only at hl ⊢
  unfold Quill.Sc.num
  by_cases hb : b = 0
  · subst hb
    simp only [ne_eq, not_true_eq_false, if_false]
    by_cases h1 : Quill.Sc.stands ⟨t, p, 0⟩ = false ∨ size < 1 ∨ 8 < size
    · rw [if_pos h1]
      refine rnum_arg t p size w ?_ (by omega)
      rcases h1 with h1 | h1
      · left; simp [Quill.Sc.stands] at h1; omega
      · right; exact h1
    · rw [if_neg h1]
      have hst : 0 ≤ p ∧ p ≤ (t.length : Int) := by
        have : ¬ Quill.Sc.stands ⟨t, p, 0⟩ = false := fun h => h1 (.inl h)
        simpa [Quill.Sc.stands] using this
      have hsz : 1 ≤ size ∧ size ≤ 8 := by omega
      by_cases h2 : (t.length : Int) - p < size
      · rw [if_pos h2]
        exact rnum_short t p size w hst.1 hst.2 hsz.1 hsz.2 h2 (by omega)
      · rw [if_neg h2]
        obtain ⟨q, rfl⟩ := Int.eq_ofNat_of_zero_le hst.1
        obtain ⟨z, rfl⟩ := Int.eq_ofNat_of_zero_le (show 0 ≤ size by omega)
        have h := rnum_any t q z w (by omega) (by omega) (by omega) hl
        simpa using h
  · rw [if_pos hb]
    exact rnum_bad t p b size w (by simpa using hb)
end Go.Proofs.YtbaedepmogkkeaaGreat
