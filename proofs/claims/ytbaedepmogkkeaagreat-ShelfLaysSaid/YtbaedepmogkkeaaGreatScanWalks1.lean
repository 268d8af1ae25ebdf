/- quill: scanning, walked: where a Scan stands, what is left, a number. No conditions but that lengths stay far below what memory holds. -/
import Derived.Test.YtbaedepmogkkeaaGreatQuillWalks1
namespace Go.Proofs.YtbaedepmogkkeaaGreat
set_option linter.unusedSimpArgs false
set_option linter.unusedVariables false
set_option maxRecDepth 100000
open Go.RowKit

set_option maxHeartbeats 400000 in
theorem stands_yes (t : List UInt8) (p b : Int) (w : World) (h0 : 0 ≤ p) (h1 : p ≤ (t.length : Int)) :
    Calls Tryz.prog 179 #[.agg #[.string (bs t), .int .i64 p, .int .i64 b]] w fun e w' => e = .returned (.bool true) ∧ Below w.heap.size w w' := by
  go_enter Tryz.func179, Tryz.ntmps179
  go_wp2
  go_ret
  exact ⟨rfl, (Below.refl _ _).alloc (Nat.le_refl _) _⟩
set_option maxHeartbeats 400000 in
theorem stands_no (t : List UInt8) (p b : Int) (w : World) (h : p < 0 ∨ (t.length : Int) < p) (hl : t.length ≤ 9223372036854775807) :
    Calls Tryz.prog 179 #[.agg #[.string (bs t), .int .i64 p, .int .i64 b]] w fun e w' => e = .returned (.bool false) ∧ Below w.heap.size w w' := by
  by_cases h0 : 0 ≤ p
  · have h2 : (t.length : Int) < p := by omega
    clear h
    go_enter Tryz.func179, Tryz.ntmps179
    go_wp2
    go_ret
    exact ⟨by simp; try omega, (Below.refl _ _).alloc (Nat.le_refl _) _⟩
  · have h2 : decide (0 ≤ p) = false := by simpa using h0
    clear h
    go_enter Tryz.func179, Tryz.ntmps179
    go_wp2
    go_ret
    exact ⟨by first | rfl | (simp; omega), (Below.refl _ _).alloc (Nat.le_refl _) _⟩
set_option maxHeartbeats 400000 in
theorem left_any (t : List UInt8) (p b : Int) (w : World) (h0 : 0 ≤ p) (h1 : p ≤ (t.length : Int)) (hl : t.length ≤ 9223372036854775807) :
    Calls Tryz.prog 181 #[.agg #[.string (bs t), .int .i64 p, .int .i64 b]] w fun e w' => e = .returned (.int .i64 ((t.length : Int) - p)) ∧ Below w.heap.size w w' := by
  go_enter Tryz.func181, Tryz.ntmps181
  go_wp2
  go_ret
  exact ⟨rfl, (Below.refl _ _).alloc (Nat.le_refl _) _⟩
set_option maxHeartbeats 400000 in
theorem fails_any (t : List UInt8) (p b e : Int) (w : World) :
    Calls Tryz.prog 180 #[.agg #[.string (bs t), .int .i64 p, .int .i64 b], .int .i64 e] w fun r w' => r = .returned (.agg #[.string (bs t), .int .i64 p, .int .i64 e]) ∧ Below w.heap.size w w' := by
  go_enter Tryz.func180, Tryz.ntmps180
  go_wp2
  exact bodyPost_ret (v := .agg #[.string (bs t), .int .i64 p, .int .i64 e]) (by simp [results, Tryz.results180, go_sem]) rfl ⟨rfl, ((Below.refl _ _).alloc (Nat.le_refl _) _).alloc (by simp) _⟩

/-- A number and a Scan. -/
def RetNS (w : World) (x : Nat) (t : List UInt8) (p b : Int) (e : Ending) (w' : World) : Prop :=
  e = .returned (.tuple #[.int .u64 (x : Int), .agg #[.string (bs t), .int .i64 p, .int .i64 b]]) ∧ Below w.heap.size w w'

theorem wrap64u (n : Int) (h0 : 0 ≤ n) (h1 : n < 18446744073709551616) : IntKind.u64.wrap n = n := by
  have : IntKind.u64.wrap n = n % 18446744073709551616 := by simp [IntKind.wrap, IntKind.bits, IntKind.signed]
  rw [this]; omega
theorem tell_step (D : List UInt8) (k : Nat) (hk : k < D.length) (h8 : D.length ≤ 8) :
    bits .or .u64 (IntKind.u64.wrap (((Quill.tell (D.take k) : Nat) : Int) * 256)) (IntKind.u64.wrap ((byteAt D k).toNat : Int)) = ((Quill.tell (D.take (k + 1)) : Nat) : Int) := by
  have hb := (byteAt D k).toNat_lt
  have ht := Quill.tell_lt (D.take k)
  rw [List.length_take, Nat.min_eq_left (by omega)] at ht
  have hp : 256 ^ k ≤ 256 ^ 7 := Nat.pow_le_pow_right (by omega) (by omega)
  have hlt : Quill.tell (D.take k) < 72057594037927936 := Nat.lt_of_lt_of_le ht hp
  rw [take_snoc D k hk, Quill.tell_snoc]
  generalize Quill.tell (D.take k) = a at hlt
  generalize (byteAt D k).toNat = b at hb
  rw [wrap64u _ (by omega) (by omega), wrap64u _ (by omega) (by omega)]
  have e : ((a : Int) * 256) = ((a * 256 : Nat) : Int) := by omega
  rw [e, u64_or_nat _ _ (by omega) (by omega)]
  have e2 : a * 256 ||| b = a * 256 + b := by
    have := Nat.shiftLeft_add_eq_or_of_lt (i := 8) hb a
    rw [Nat.shiftLeft_eq] at this
    exact this.symm
  rw [e2]

theorem infoSc : (Tryz.prog.info? 205).map (·.size) = some 3 := by kernel_rfl

set_option maxHeartbeats 400000 in
theorem snum_bad (t : List UInt8) (p b size : Int) (w : World) (hb : (b != 0) = true) :
    Calls Tryz.prog 126 #[.agg #[.string (bs t), .int .i64 p, .int .i64 b], .int .i64 size] w (RetNS w 0 t p b) := by
  go_enter Tryz.func126, Tryz.ntmps126
  go_wp2_with fail
  go_region
  go_wp2_with fail
  exact bodyPost_ret (results_tmp_row rfl _ _ (w.heap.size + 1) 205 _ _ rfl (Blk.new2 w _ _ _) Tryz.underlying205 rfl infoSc) rfl ⟨rfl, (((Below.refl _ _).alloc (Nat.le_refl _) _).alloc (by simp) _).drew⟩


set_option maxRecDepth 100000 in
set_option maxHeartbeats 400000 in
theorem snum_any (t : List UInt8) (p size : Nat) (w : World) (h1 : p + size ≤ t.length) (hs1 : 1 ≤ size) (hs8 : size ≤ 8) (hl : t.length ≤ 70368744177664) :
    Calls Tryz.prog 126 #[.agg #[.string (bs t), .int .i64 p, .int .i64 0], .int .i64 size] w (RetNS w (Quill.tell ((t.drop p).take size)) t ((p + size : Nat) : Int) 0) := by
  go_enter Tryz.func126, Tryz.ntmps126
  go_wp2_with fail
  refine (stands_yes _ _ _ _ (by omega) (by omega)).mono ?_; rintro e w1 ⟨rfl, hb1⟩
  obtain ⟨k0, k1, hb, hz⟩ := two_boxes hb1
  clear hb1
  have c0 := (Blk.c3 k0).1
  have HK := Lib.hid (And.intro k0 (And.intro k1 hb)); clear k0 k1 hb
  go_wp2_with fail
  refine (sized_yes _ _ (by omega) (by omega)).mono ?_; rintro e w2 ⟨rfl, rfl⟩
  go_wp2_with fail
  refine (left_any _ _ _ _ (by omega) (by omega) (by omega)).mono ?_; rintro e w2 ⟨rfl, hb2⟩
  have k0 : Blk w2 w.heap.size _ _ := Blk.below HK.out.1 hb2 (by omega)
  have k1 : Blk w2 (w.heap.size + 1) _ _ := Blk.below HK.out.2.1 hb2 (by omega)
  have c0' := (Blk.c3 k0).1
  have hb := HK.out.2.2.trans (hb2.mono (by omega))
  have hz2 : w.heap.size + 1 < w2.heap.size := by have := hb2.size; omega
  clear c0 hb2 HK
  have HK := Lib.hid (And.intro k0 (And.intro k1 hb)); clear k0 k1 hb
  obtain ⟨D, hD, hDl, hDt⟩ : ∃ D, (t.take (p + size)).drop p = D ∧ D.length = size ∧ Hid (D = (t.drop p).take size) := by
    refine ⟨_, rfl, ?_, ?_⟩
    · rw [List.length_drop, List.length_take]; omega
    · rw [List.drop_take, Nat.add_sub_cancel_left]; rfl
  obtain ⟨w3, cap, hrun, hbuf, hb3, hz3, hcap⟩ := conv_bytes (P := Tryz.prog) w2 9 75 5 D Tryz.underlying9 Tryz.underlying75 Tryz.underlying5
  rw [hDl] at hcap hrun
  go_wp2_with fail
  generalize w2.heap.size = g2 at *
  have HF := Lib.hid (And.intro hbuf hb3)
  have HDL := Lib.hid hDl
  clear hrun hbuf hb3 hD hDl c0'
  go_loop [6, 43] (fun n i => ∃ k : Nat, k ≤ size ∧ i = .int .i64 k ∧ n = .int .u64 (Quill.tell (D.take k) : Nat)) (fun _ i => size - (intOf i).toNat)
  case atStart => exact ⟨0, by omega, rfl, rfl⟩
  case round =>
    obtain ⟨k, hk, rfl, rfl⟩ := hrel
    by_cases hlt : k < size
    · have hc := HF.out.1.cell (j := k) (by rw [HDL.out]; exact hlt)
      have hki : (k : Int) < (size : Int) := by omega
      go_wp2_with fail
      go_round
      case rel => exact ⟨k + 1, by omega, by go_num, val_of (tell_step D k (by rw [HDL.out]; exact hlt) (by rw [HDL.out]; exact hs8))⟩
      case measure => simp [intOf]; omega
    · obtain rfl : k = size := by omega
      have k0 : Blk w3 w.heap.size _ _ := Blk.below HK.out.1 HF.out.2 (by omega)
      have k1 : Blk w3 (w.heap.size + 1) _ _ := Blk.below HK.out.2.1 HF.out.2 (by omega)
      have c0 := Blk.c3 k0
      have c1 := Blk.c3 k1
      have HB := Lib.hid (And.intro k0 (And.intro k1 (HK.out.2.2.trans (HF.out.2.mono (by omega))))); clear k0 k1 HK
      have htl : D.take k = D := List.take_of_length_le (by rw [HDL.out]; omega)
      have HT := Lib.hid htl; clear htl
      go_wp2_with fail
      go_region
      go_wp2_with fail
      have hB : Blk _ (w.heap.size + 1) 205 #[.string (bs t), .int .i64 ((p : Int) + (k : Int)), .int .i64 0] :=
        ((((HB.out.2.1.far (p := ⟨w.heap.size, 1, none⟩) (by simp) (.int .i64 ((p : Int) + (k : Int)))).set 0 (.string (bs t))).set 1 (.int .i64 ((p : Int) + (k : Int)))).set 2 (.int .i64 0)).drew
      refine bodyPost_ret (results_tmp_row rfl _ _ (w.heap.size + 1) 205 _ _ rfl hB Tryz.underlying205 rfl infoSc) rfl ⟨?_, ?_⟩
      · rw [← hDt.out]
        show Ending.returned (.tuple #[.int .u64 ((Quill.tell (D.take k) : Nat) : Int), _]) = _
        rw [HT.out, Int.natCast_add]
      · exact ((((HB.out.2.2.setCell (p := ⟨w.heap.size, 1, none⟩) (by simp) _).setCell (p := ⟨w.heap.size + 1, 0, none⟩) (by simp) _).setCell (p := ⟨w.heap.size + 1, 1, none⟩) (by simp) _).setCell (p := ⟨w.heap.size + 1, 2, none⟩) (by simp) _).drew

set_option maxRecDepth 100000 in
set_option maxHeartbeats 400000 in
theorem snum_arg (t : List UInt8) (p size : Int) (w : World) (h : (p < 0 ∨ (t.length : Int) < p) ∨ (size < 1 ∨ 8 < size)) (hl : t.length ≤ 9223372036854775807) :
    Calls Tryz.prog 126 #[.agg #[.string (bs t), .int .i64 p, .int .i64 0], .int .i64 size] w (RetNS w 0 t p 2) := by
  have HH := Lib.hid h; clear h
  by_cases hst : p < 0 ∨ (t.length : Int) < p
  · have HS := Lib.hid hst; clear hst
    go_enter Tryz.func126, Tryz.ntmps126
    go_wp2_with fail
    refine (stands_no _ _ _ _ HS.out hl).mono ?_; rintro e w1 ⟨rfl, hb1⟩
    obtain ⟨k0, k1, hb, hz⟩ := two_boxes hb1
    clear hb1
    have c0 := (Blk.c3 k0).1
    have HK := Lib.hid (And.intro k0 (And.intro k1 hb)); clear k0 k1 hb
    go_wp2_with fail
    refine (fails_any _ _ _ _ _).mono ?_; rintro e w2 ⟨rfl, hb2⟩
    have k1 : Blk w2 (w.heap.size + 1) _ _ := Blk.below HK.out.2.1 hb2 (by omega)
    have c1 := Blk.c3 k1
    have hb := HK.out.2.2.trans (hb2.mono (by omega))
    clear c0 hb2 HK
    have HK := Lib.hid (And.intro k1 hb); clear k1 hb
    go_wp2_with fail
    have hB : Blk _ (w.heap.size + 1) 205 #[.string (bs t), .int .i64 p, .int .i64 2] := ((HK.out.1.set 0 (.string (bs t))).set 1 (.int .i64 p)).set 2 (.int .i64 2)
    exact bodyPost_ret (results_tmp_row rfl _ _ (w.heap.size + 1) 205 _ _ rfl hB Tryz.underlying205 rfl infoSc) rfl ⟨rfl, ((HK.out.2.setCell (p := ⟨w.heap.size + 1, 0, none⟩) (by simp) _).setCell (p := ⟨w.heap.size + 1, 1, none⟩) (by simp) _).setCell (p := ⟨w.heap.size + 1, 2, none⟩) (by simp) _⟩
  · have hst' : 0 ≤ p ∧ p ≤ (t.length : Int) := by omega
    have hsz : size < 1 ∨ 8 < size := by rcases HH.out with h | h
                                         · exact absurd h hst
                                         · exact h
    clear hst
    have HS := Lib.hid hsz; clear hsz
    go_enter Tryz.func126, Tryz.ntmps126
    go_wp2_with fail
    refine (stands_yes _ _ _ _ hst'.1 hst'.2).mono ?_; rintro e w1 ⟨rfl, hb1⟩
    obtain ⟨k0, k1, hb, hz⟩ := two_boxes hb1
    clear hb1
    have c0 := (Blk.c3 k0).1
    have HK := Lib.hid (And.intro k0 (And.intro k1 hb)); clear k0 k1 hb
    go_wp2_with fail
    refine (sized_no _ _ HS.out).mono ?_; rintro e w2 ⟨rfl, rfl⟩
    go_wp2_with fail
    refine (fails_any _ _ _ _ _).mono ?_; rintro e w2 ⟨rfl, hb2⟩
    have k1 : Blk w2 (w.heap.size + 1) _ _ := Blk.below HK.out.2.1 hb2 (by omega)
    have c1 := Blk.c3 k1
    have hb := HK.out.2.2.trans (hb2.mono (by omega))
    clear c0 hb2 HK
    have HK := Lib.hid (And.intro k1 hb); clear k1 hb
    go_wp2_with fail
    have hB : Blk _ (w.heap.size + 1) 205 #[.string (bs t), .int .i64 p, .int .i64 2] := ((HK.out.1.set 0 (.string (bs t))).set 1 (.int .i64 p)).set 2 (.int .i64 2)
    exact bodyPost_ret (results_tmp_row rfl _ _ (w.heap.size + 1) 205 _ _ rfl hB Tryz.underlying205 rfl infoSc) rfl ⟨rfl, ((HK.out.2.setCell (p := ⟨w.heap.size + 1, 0, none⟩) (by simp) _).setCell (p := ⟨w.heap.size + 1, 1, none⟩) (by simp) _).setCell (p := ⟨w.heap.size + 1, 2, none⟩) (by simp) _⟩

set_option maxRecDepth 100000 in
set_option maxHeartbeats 400000 in
theorem snum_short (t : List UInt8) (p size : Int) (w : World) (h0 : 0 ≤ p) (h1 : p ≤ (t.length : Int)) (hs1 : 1 ≤ size) (hs8 : size ≤ 8) (h : (t.length : Int) - p < size) (hl : t.length ≤ 9223372036854775807) :
    Calls Tryz.prog 126 #[.agg #[.string (bs t), .int .i64 p, .int .i64 0], .int .i64 size] w (RetNS w 0 t p 3) := by
  go_enter Tryz.func126, Tryz.ntmps126
  go_wp2_with fail
  refine (stands_yes _ _ _ _ h0 h1).mono ?_; rintro e w1 ⟨rfl, hb1⟩
  obtain ⟨k0, k1, hb, hz⟩ := two_boxes hb1
  clear hb1
  have c0 := (Blk.c3 k0).1
  have HK := Lib.hid (And.intro k0 (And.intro k1 hb)); clear k0 k1 hb
  go_wp2_with fail
  refine (sized_yes _ _ hs1 hs8).mono ?_; rintro e w2 ⟨rfl, rfl⟩
  go_wp2_with fail
  refine (left_any _ _ _ _ h0 h1 hl).mono ?_; rintro e w2 ⟨rfl, hb2⟩
  have k0 : Blk w2 w.heap.size _ _ := Blk.below HK.out.1 hb2 (by omega)
  have k1 : Blk w2 (w.heap.size + 1) _ _ := Blk.below HK.out.2.1 hb2 (by omega)
  have c0' := (Blk.c3 k0).1
  have hb := HK.out.2.2.trans (hb2.mono (by omega))
  have hz2 : w.heap.size + 1 < w2.heap.size := by have := hb2.size; omega
  clear c0 hb2 HK
  have HK := Lib.hid (And.intro k1 hb); clear k0 k1 hb
  go_wp2_with fail
  refine (fails_any _ _ _ _ _).mono ?_; rintro e w3 ⟨rfl, hb3⟩
  have k1 : Blk w3 (w.heap.size + 1) _ _ := Blk.below HK.out.1 hb3 (by omega)
  have c1 := Blk.c3 k1
  have hb := HK.out.2.trans (hb3.mono (by omega))
  clear c0' hb3 HK
  have HK := Lib.hid (And.intro k1 hb); clear k1 hb
  go_wp2_with fail
  have hB : Blk _ (w.heap.size + 1) 205 #[.string (bs t), .int .i64 p, .int .i64 3] := ((HK.out.1.set 0 (.string (bs t))).set 1 (.int .i64 p)).set 2 (.int .i64 3)
  exact bodyPost_ret (results_tmp_row rfl _ _ (w.heap.size + 1) 205 _ _ rfl hB Tryz.underlying205 rfl infoSc) rfl ⟨rfl, ((HK.out.2.setCell (p := ⟨w.heap.size + 1, 0, none⟩) (by simp) _).setCell (p := ⟨w.heap.size + 1, 1, none⟩) (by simp) _).setCell (p := ⟨w.heap.size + 1, 2, none⟩) (by simp) _⟩

/-- Scan.Num is the plain num. -/
theorem snum (s : Quill.Sc) (size : Int) (w : World) (hl : s.text.length ≤ 70368744177664) :
    Calls Tryz.prog 126 #[.agg #[.string (bs s.text), .int .i64 s.pos, .int .i64 s.bad], .int .i64 size] w (RetNS w (s.num size).1 s.text (s.num size).2.pos (s.num size).2.bad) := by
  obtain ⟨t, p, b⟩ := s
  simp only at hl ⊢
  unfold Quill.Sc.num
  by_cases hb : b = 0
  · subst hb
    simp only [ne_eq, not_true_eq_false, if_false]
    by_cases h1 : Quill.Sc.stands ⟨t, p, 0⟩ = false ∨ size < 1 ∨ 8 < size
    · rw [if_pos h1]
      refine snum_arg t p size w ?_ (by omega)
      rcases h1 with h1 | h1
      · left; simp [Quill.Sc.stands] at h1; omega
      · right; exact h1
    · rw [if_neg h1]
      have hst : 0 ≤ p ∧ p ≤ (t.length : Int) := by
        have : ¬ Quill.Sc.stands ⟨t, p, 0⟩ = false := fun h => h1 (.inl h)
        simpa [Quill.Sc.stands] using this
      have hsz : 1 ≤ size ∧ size ≤ 8 := by omega
      by_cases h2 : (t.length : Int) - p < size
      · rw [if_pos h2]
        exact snum_short t p size w hst.1 hst.2 hsz.1 hsz.2 h2 (by omega)
      · rw [if_neg h2]
        obtain ⟨q, rfl⟩ := Int.eq_ofNat_of_zero_le hst.1
        obtain ⟨z, rfl⟩ := Int.eq_ofNat_of_zero_le (show 0 ≤ size by omega)
        have h := snum_any t q z w (by omega) (by omega) (by omega) hl
        simpa using h
  · rw [if_pos hb]
    exact snum_bad t p b size w (by simpa using hb)
end Go.Proofs.YtbaedepmogkkeaaGreat
