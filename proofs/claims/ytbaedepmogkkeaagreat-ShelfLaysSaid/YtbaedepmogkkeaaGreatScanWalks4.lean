/- quill: scanning, both sides told by the plain Scan: a row, what is left, the end, and one side's Scan as the other's. -/
import Derived.Test.YtbaedepmogkkeaaGreatScanWalks3
namespace Go.Proofs.YtbaedepmogkkeaaGreat
set_option linter.unusedSimpArgs false
set_option linter.unusedVariables false
open Go.RowKit

/-- A number that was told: where, and how small. -/
theorem Quill.Sc.num_ok (s : Quill.Sc) (h : (s.num 2).2.bad = 0) :
    ∃ q : Nat, (s.num 2).2.pos = (q : Int) ∧ q ≤ s.text.length ∧ (s.num 2).1 < 65536 := by
  have ht := Quill.tell_lt ((s.text.drop s.pos.toNat).take (2 : Int).toNat)
  have hl : ((s.text.drop s.pos.toNat).take (2 : Int).toNat).length ≤ 2 := by rw [List.length_take]; exact Nat.min_le_left _ _
  have hp : 256 ^ ((s.text.drop s.pos.toNat).take (2 : Int).toNat).length ≤ 256 ^ 2 := Nat.pow_le_pow_right (by omega) hl
  have hlt := Nat.lt_of_lt_of_le ht hp
  unfold Quill.Sc.num at h ⊢
  by_cases hb : s.bad ≠ 0
  · rw [if_pos hb] at h; exact absurd h hb
  · rw [if_neg hb] at h ⊢
    by_cases h2 : s.stands = false ∨ (2 : Int) < 1 ∨ 8 < (2 : Int)
    · rw [if_pos h2] at h; simp [Quill.Sc.fails] at h
    · rw [if_neg h2] at h ⊢
      by_cases h3 : (s.text.length : Int) - s.pos < 2
      · rw [if_pos h3] at h; simp [Quill.Sc.fails] at h
      · rw [if_neg h3]
        have hst : 0 ≤ s.pos ∧ s.pos ≤ (s.text.length : Int) := by
          have : ¬ s.stands = false := fun h => h2 (.inl h)
          simpa [Quill.Sc.stands] using this
        refine ⟨(s.pos + 2).toNat, ?_, ?_, ?_⟩
        · simp only; omega
        · omega
        · exact hlt

/-- A row is the plain row. -/
theorem srow (s : Quill.Sc) (w : World) (hl : s.text.length ≤ 70368744177664) :
    Calls Tryz.prog 127 #[.agg #[.string (bs s.text), .int .i64 s.pos, .int .i64 s.bad]] w (RetTS w s.row.1 s.text s.row.2.pos s.row.2.bad) := by
  have H : Hid (∀ w, Calls Tryz.prog 126 #[.agg #[.string (bs s.text), .int .i64 s.pos, .int .i64 s.bad], .int .i64 2] w (RetNS w (s.num 2).1 s.text (s.num 2).2.pos (s.num 2).2.bad)) :=
    Lib.hid fun w => snum s 2 w hl
  by_cases hb : (s.num 2).2.bad = 0
  · obtain ⟨q, hq, hq2, hx⟩ := s.num_ok hb
    rw [hb, hq] at H
    by_cases h3 : (s.text.length : Int) - (q : Int) < ((s.num 2).1 : Int)
    · have hr : s.row = ([], s.fails 3) := by unfold Quill.Sc.row; rw [if_neg (by simpa using hb), hq, if_pos h3]
      rw [hr]
      exact srow_short s.text s.pos s.bad q (s.num 2).1 w H (by omega) (by omega) hx h3 (by omega)
    · have hr : s.row = ((s.text.drop q).take (s.num 2).1, ⟨s.text, (q : Int) + ((s.num 2).1 : Int), 0⟩) := by
        unfold Quill.Sc.row; rw [if_neg (by simpa using hb), hq, if_neg h3, Int.toNat_natCast]
      rw [hr]
      exact srow_any s.text s.pos s.bad q (s.num 2).1 w H hx (by omega) (by omega)
  · have hr : s.row = ([], (s.num 2).2) := by unfold Quill.Sc.row; rw [if_pos hb]
    rw [hr]
    exact srow_bad s.text s.pos s.bad _ _ _ w H (by simpa using hb)

set_option maxHeartbeats 400000 in
theorem sfin (s : Quill.Sc) (w : World) (hl : s.text.length ≤ 9223372036854775807) :
    Calls Tryz.prog 128 #[.agg #[.string (bs s.text), .int .i64 s.pos, .int .i64 s.bad]] w fun e w' => e = .returned (.int .i64 s.fin) ∧ Below w.heap.size w w' := by
  obtain ⟨t, p, b⟩ := s
  simp only at hl
  dsimp only
  by_cases hb : b = 0
  · subst hb
    by_cases hst : 0 ≤ p ∧ p ≤ (t.length : Int)
    · by_cases hp : p < (t.length : Int)
      · have hp2 : 0 < (t.length : Int) - p := by omega
        have hp3 : (p != (t.length : Int)) = true := by simp; omega
        rw [show Quill.Sc.fin ⟨t, p, 0⟩ = 4 by simp [Quill.Sc.fin, Quill.Sc.stands, hst.1, hst.2, hp]]
        go_enter Tryz.func128, Tryz.ntmps128
        go_wp2_with fail
        refine (stands_yes _ _ _ _ hst.1 hst.2).mono ?_; rintro e w1 ⟨rfl, hb1⟩
        obtain ⟨k0, hb', hz⟩ := one_box hb1
        clear hb1
        have c0 := Blk.c3 k0
        have HK := Lib.hid (And.intro k0 hb'); clear k0 hb'
        go_wp2_with fail
        refine (left_any _ _ _ _ hst.1 hst.2 hl).mono ?_; rintro e w2 ⟨rfl, hb2⟩
        have hb' := HK.out.2.trans (hb2.mono (by omega))
        clear c0 hb2 HK
        have HK := Lib.hid (And.intro True.intro hb'); clear hb'
        go_wp2_with fail
        go_ret
        exact ⟨rfl, HK.out.2⟩
      · obtain rfl : p = (t.length : Int) := by omega
        rw [show Quill.Sc.fin ⟨t, (t.length : Int), 0⟩ = 0 by simp [Quill.Sc.fin, Quill.Sc.stands]]
        clear hp
        go_enter Tryz.func128, Tryz.ntmps128
        go_wp2_with fail
        refine (stands_yes _ _ _ _ hst.1 hst.2).mono ?_; rintro e w1 ⟨rfl, hb1⟩
        obtain ⟨k0, hb', hz⟩ := one_box hb1
        clear hb1
        have c0 := Blk.c3 k0
        have HK := Lib.hid (And.intro k0 hb'); clear k0 hb'
        go_wp2_with fail
        refine (left_any _ _ _ _ hst.1 hst.2 hl).mono ?_; rintro e w2 ⟨rfl, hb2⟩
        have hb' := HK.out.2.trans (hb2.mono (by omega))
        clear c0 hb2 HK
        have HK := Lib.hid (And.intro True.intro hb'); clear hb'
        go_wp2_with fail
        go_ret
        exact ⟨rfl, HK.out.2⟩
    · rw [show Quill.Sc.fin ⟨t, p, 0⟩ = 2 by simp only [Quill.Sc.fin, Quill.Sc.stands]; rw [if_neg (by simp)]; exact if_pos (by simpa using hst)]
      have HS := Lib.hid hst; clear hst
      go_enter Tryz.func128, Tryz.ntmps128
      go_wp2_with fail
      refine (stands_no _ _ _ _ (by have := HS.out; omega) hl).mono ?_; rintro e w1 ⟨rfl, hb1⟩
      obtain ⟨k0, hb', hz⟩ := one_box hb1
      clear hb1
      have HK := Lib.hid hb'; clear k0 hb'
      go_wp2_with fail
      go_ret
      exact ⟨rfl, HK.out⟩
  · have hb2 : (b != 0) = true := by simpa using hb
    rw [show Quill.Sc.fin ⟨t, p, b⟩ = b by simp only [Quill.Sc.fin]; exact if_pos hb]
    clear hb
    go_enter Tryz.func128, Tryz.ntmps128
    go_wp2_with fail
    go_ret
    exact ⟨rfl, (Below.refl _ _).alloc (Nat.le_refl _) _⟩

/-- A row is the plain row. -/
theorem rrow (s : Quill.Sc) (w : World) (hl : s.text.length ≤ 70368744177664) :
    Calls Tryz.prog 136 #[.agg #[.string (bs s.text), .int .i64 s.pos, .int .i64 s.bad]] w (RetTS w s.row.1 s.text s.row.2.pos s.row.2.bad) := by
  have H : Hid (∀ w, Calls Tryz.prog 135 #[.agg #[.string (bs s.text), .int .i64 s.pos, .int .i64 s.bad], .int .i64 2] w (RetNS w (s.num 2).1 s.text (s.num 2).2.pos (s.num 2).2.bad)) :=
    Lib.hid fun w => rnum s 2 w hl
  by_cases hb : (s.num 2).2.bad = 0
  · obtain ⟨q, hq, hq2, hx⟩ := s.num_ok hb
    rw [hb, hq] at H
    by_cases h3 : (s.text.length : Int) - (q : Int) < ((s.num 2).1 : Int)
    · have hr : s.row = ([], s.fails 3) := by unfold Quill.Sc.row; rw [if_neg (by simpa using hb), hq, if_pos h3]
      rw [hr]
      exact rrow_short s.text s.pos s.bad q (s.num 2).1 w H (by omega) (by omega) hx h3 (by omega)
    · have hr : s.row = ((s.text.drop q).take (s.num 2).1, ⟨s.text, (q : Int) + ((s.num 2).1 : Int), 0⟩) := by
        unfold Quill.Sc.row; rw [if_neg (by simpa using hb), hq, if_neg h3, Int.toNat_natCast]
      rw [hr]
      exact rrow_any s.text s.pos s.bad q (s.num 2).1 w H hx (by omega) (by omega)
  · have hr : s.row = ([], (s.num 2).2) := by unfold Quill.Sc.row; rw [if_pos hb]
    rw [hr]
    exact rrow_bad s.text s.pos s.bad _ _ _ w H (by simpa using hb)

set_option maxHeartbeats 400000 in
theorem rfin (s : Quill.Sc) (w : World) (hl : s.text.length ≤ 9223372036854775807) :
    Calls Tryz.prog 137 #[.agg #[.string (bs s.text), .int .i64 s.pos, .int .i64 s.bad]] w fun e w' => e = .returned (.int .i64 s.fin) ∧ Below w.heap.size w w' := by
  obtain ⟨t, p, b⟩ := s
  simp only at hl
  dsimp only
  by_cases hb : b = 0
  · subst hb
    by_cases hst : 0 ≤ p ∧ p ≤ (t.length : Int)
    · by_cases hp : p < (t.length : Int)
      · have hp2 : 0 < (t.length : Int) - p := by omega
        have hp3 : (p != (t.length : Int)) = true := by simp; omega
        rw [show Quill.Sc.fin ⟨t, p, 0⟩ = 4 by simp [Quill.Sc.fin, Quill.Sc.stands, hst.1, hst.2, hp]]
        go_enter Tryz.func137, Tryz.ntmps137
        go_wp2_with fail
        refine (rstands_yes _ _ _ _ hst.1 hst.2).mono ?_; rintro e w1 ⟨rfl, hb1⟩
        obtain ⟨k0, hb', hz⟩ := one_box hb1
        clear hb1
        have c0 := Blk.c3 k0
        have HK := Lib.hid (And.intro k0 hb'); clear k0 hb'
        go_wp2_with fail
        go_ret
        exact ⟨rfl, HK.out.2⟩
      · obtain rfl : p = (t.length : Int) := by omega
        rw [show Quill.Sc.fin ⟨t, (t.length : Int), 0⟩ = 0 by simp [Quill.Sc.fin, Quill.Sc.stands]]
        clear hp
        go_enter Tryz.func137, Tryz.ntmps137
        go_wp2_with fail
        refine (rstands_yes _ _ _ _ hst.1 hst.2).mono ?_; rintro e w1 ⟨rfl, hb1⟩
        obtain ⟨k0, hb', hz⟩ := one_box hb1
        clear hb1
        have c0 := Blk.c3 k0
        have HK := Lib.hid (And.intro k0 hb'); clear k0 hb'
        go_wp2_with fail
        go_ret
        exact ⟨rfl, HK.out.2⟩
    · rw [show Quill.Sc.fin ⟨t, p, 0⟩ = 2 by simp only [Quill.Sc.fin, Quill.Sc.stands]; rw [if_neg (by simp)]; exact if_pos (by simpa using hst)]
      have HS := Lib.hid hst; clear hst
      go_enter Tryz.func137, Tryz.ntmps137
      go_wp2_with fail
      refine (rstands_no _ _ _ _ (by have := HS.out; omega) hl).mono ?_; rintro e w1 ⟨rfl, hb1⟩
      obtain ⟨k0, hb', hz⟩ := one_box hb1
      clear hb1
      have HK := Lib.hid hb'; clear k0 hb'
      go_wp2_with fail
      go_ret
      exact ⟨rfl, HK.out⟩
  · have hb2 : (b != 0) = true := by simpa using hb
    rw [show Quill.Sc.fin ⟨t, p, b⟩ = b by simp only [Quill.Sc.fin]; exact if_pos hb]
    clear hb
    go_enter Tryz.func137, Tryz.ntmps137
    go_wp2_with fail
    go_ret
    exact ⟨rfl, (Below.refl _ _).alloc (Nat.le_refl _) _⟩

end Go.Proofs.YtbaedepmogkkeaaGreat
