/- 'awake' of the laws of quill: it returns true. No conditions. -/
import Derived.Test.YtfonmnodjmeigaaSplitWalks
import Derived.Test.YtfonmnodjmeigaaQuillWalks4
namespace Go.Proofs.Ytfonmnodjmeigaa
set_option linter.unusedSimpArgs false
set_option linter.unusedVariables false
open Go.RowKit

theorem RdT.pair {w : World} {A : Option Addr} {n : Nat} {L : List (List UInt8)} (h : RdT w A n L) (hn : n = 2) :
    ∃ b o, A = some ⟨b, o, none⟩ ∧ w.cell? ⟨b, o, none⟩ = some (.string (bs (tAt L 0))) ∧ w.cell? ⟨b, o + 1, none⟩ = some (.string (bs (tAt L 1))) := by
  obtain ⟨b, o, rfl, h0⟩ := h.at_ (k := 0) (by omega)
  obtain ⟨b', o', e, h1⟩ := h.at_ (k := 1) (by omega)
  cases e
  exact ⟨b, o, rfl, h0, h1⟩

set_option maxRecDepth 100000 in
set_option maxHeartbeats 1000000 in
theorem qawake_any (w : World) :
    Calls Try.prog 12 #[] w fun e w' => e = .returned (.bool true) ∧ Below w.heap.size w w' := by
  have c1 : ∀ w, Calls Try.prog 26 #[.slice none 0 0, .int .i64 2, .int .u64 258] w (RetB w.heap.size w [1, 2]) := fun w => by
    have h := num_yes none 0 0 2 258 [] w w.heap.size (RdB.nil_ _ _) (by omega) (by omega) (by omega) (by omega) (Nat.le_refl _)
    rw [show ([] : List UInt8) ++ Quill.numB 2 258 = [1, 2] by decide +kernel] at h
    exact h
  have c2 : ∀ A n c w, RdB w A n [1, 2] → Calls Try.prog 27 #[.slice A n c, .string (bs [97, 98])] w (RetBE w.heap.size w [1, 2, 0, 2, 97, 98] 0) := fun A n c w hr => by
    have h := row_any A n c [1, 2] [97, 98] w w.heap.size hr (by have := hr.1; simp at this; omega) (by simp) (Nat.le_refl _)
    rw [show ([1, 2] : List UInt8) ++ Quill.rowB [97, 98] = [1, 2, 0, 2, 97, 98] by decide +kernel] at h
    exact h
  have c3 : ∀ w, Calls Try.prog 21 #[.agg #[.string (bs [1, 2, 0, 2, 97, 98]), .int .i64 0, .int .i64 0], .int .i64 2] w (RetNS w 258 [1, 2, 0, 2, 97, 98] 2 0) := fun w => snum ⟨[1, 2, 0, 2, 97, 98], 0, 0⟩ 2 w (by simp)
  have c4 : ∀ w, Calls Try.prog 19 #[.agg #[.string (bs [1, 2, 0, 2, 97, 98]), .int .i64 2, .int .i64 0]] w (RetTS w [97, 98] [1, 2, 0, 2, 97, 98] 6 0) := fun w => srow ⟨[1, 2, 0, 2, 97, 98], 2, 0⟩ w (by simp)
  have c5 : ∀ w, Calls Try.prog 21 #[.agg #[.string (bs [1, 2, 0, 2, 97, 98]), .int .i64 6, .int .i64 0], .int .i64 1] w (RetNS w 0 [1, 2, 0, 2, 97, 98] 6 3) := fun w => snum ⟨[1, 2, 0, 2, 97, 98], 6, 0⟩ 1 w (by simp)
  have c6 : ∀ w, Calls Try.prog 23 #[.string (bs [0, 1, 120, 0, 0])] w (RetTE w.heap.size w ([[120], []], 0)) := fun w => by
    have h := ssplit [0, 1, 120, 0, 0] w (by simp)
    rw [show Quill.split [0, 1, 120, 0, 0] = ([[120], []], 0) by decide +kernel] at h
    exact h
  have c7 : ∀ w, Calls Try.prog 16 #[.agg #[.string (bs [1, 2, 0, 2, 97, 98]), .int .i64 6, .int .i64 0]] w fun e w' => e = .returned (.int .i64 0) ∧ Below w.heap.size w w' := fun w => sfin ⟨[1, 2, 0, 2, 97, 98], 6, 0⟩ w (by simp)
  have c8 : ∀ w, Calls Try.prog 14 #[.agg #[.string (bs [1, 2, 0, 2, 97, 98]), .int .i64 2, .int .i64 0]] w fun e w' => e = .returned (.string (bs [0, 2, 97, 98])) ∧ Below w.heap.size w w' := fun w => srest ⟨[1, 2, 0, 2, 97, 98], 2, 0⟩ w (by simp)
  have C := Lib.hid (And.intro c1 (And.intro c2 (And.intro c3 (And.intro c4 (And.intro c5 (And.intro c6 (And.intro c7 c8)))))))
  clear c1 c2 c3 c4 c5 c6 c7 c8
  go_enter Try.func12, Try.ntmps12
  go_wp2_with fail
  refine (C.out.1 _).mono ?_; rintro e w1 ⟨A1, n1, k1, rfl, h1, hb1⟩
  have HB := Lib.hid hb1
  have HO := Lib.hid h1; clear h1 hb1
  go_wp2_with fail
  refine (C.out.2.1 _ _ _ _ HO.out.rd).mono ?_; rintro e w2 ⟨A2, n2, k2, rfl, h2, hb2⟩
  have HB2 := Lib.hid (below_chain HB.out hb2); clear HB hb2 HO
  have hc := run_string_B 52 9 h2.rd Try.underlying52 Try.underlying9 k2
  have HO := Lib.hid h2; clear h2
  go_wp2_with fail
  refine (C.out.2.2.1 _).mono ?_; rintro e w3 ⟨rfl, hb3⟩
  have HR := Lib.hid (HO.out.rd.below hb3)
  have HB3 := Lib.hid (below_chain HB2.out hb3); clear HB2 hb3 HO hc
  go_wp2_with fail
  refine (C.out.2.2.2.1 _).mono ?_; rintro e w4 ⟨rfl, hb4⟩
  obtain ⟨q3, hb, hz4⟩ := one_box hb4
  have HR4 := Lib.hid (HR.out.below hb)
  have HQ := Lib.hid q3
  have HB4 := Lib.hid (below_chain HB3.out hb); clear HB3 hb4 HR hb q3
  go_wp2_with fail
  refine (C.out.2.2.2.2.1 _).mono ?_; rintro e w5 ⟨rfl, hb5⟩
  obtain ⟨q4, hb, hz5⟩ := one_box hb5
  have HR5 := Lib.hid (HR4.out.below hb)
  have q3 : Blk w5 w3.heap.size _ _ := Blk.below HQ.out hb hz4
  have hz35 : w3.heap.size < w5.heap.size := by omega
  have HB5 := Lib.hid (below_chain HB4.out hb); clear HB4 HR4 HQ hb5 hb
  have HQ := Lib.hid (And.intro q3 q4); clear q3 q4
  go_wp2_with fail
  refine (C.out.2.2.2.2.2.1 _).mono ?_; rintro e w6 ⟨A6, n6, k6, rfl, h6, hb6⟩
  obtain ⟨q5, hb, hz6⟩ := one_box hb6
  have HR6 := Lib.hid (HR5.out.below hb)
  have q3 : Blk w6 w3.heap.size _ _ := Blk.below HQ.out.1 hb hz35
  have q4 : Blk w6 w4.heap.size _ _ := Blk.below HQ.out.2 hb hz5
  have hz36 : w3.heap.size < w6.heap.size := by omega
  have hz46 : w4.heap.size < w6.heap.size := by omega
  have HB6 := Lib.hid (below_chain HB5.out hb); clear HB5 HR5 HQ hb6 hb
  have d4 := Blk.c3 q4
  have HQ := Lib.hid (And.intro q3 q5); clear q3 q4 q5
  obtain rfl : n6 = 2 := by have := h6.1; simpa using this.symm
  have hc := run_string_B 52 9 HR6.out Try.underlying52 Try.underlying9 k2
  have HL := Lib.hid h6.rd; clear h6
  go_wp2_with fail
  refine (C.out.2.2.2.2.2.2.1 _).mono ?_; rintro e w7 ⟨rfl, hb⟩
  have q3 : Blk w7 w3.heap.size _ _ := Blk.below HQ.out.1 hb hz36
  have q5 : Blk w7 w5.heap.size _ _ := Blk.below HQ.out.2 hb hz6
  have HL7 := Lib.hid (HL.out.below hb)
  have hz37 : w3.heap.size < w7.heap.size := q3.lt
  have hz57 : w5.heap.size < w7.heap.size := q5.lt
  have HB7 := Lib.hid (below_chain HB6.out hb); clear HB6 HR6 HQ hb hc HL d4
  have d3 := Blk.c3 q3
  have HQ := Lib.hid q5; clear q3 q5
  go_wp2_with fail
  refine (C.out.2.2.2.2.2.2.2 _).mono ?_; rintro e w8 ⟨rfl, hb⟩
  have q5 : Blk w8 w5.heap.size _ _ := Blk.below HQ.out hb hz57
  obtain ⟨b6, o6, rfl, t0, t1⟩ := (HL7.out.below hb).pair rfl
  have HB8 := Lib.hid (below_chain HB7.out hb); clear HB7 HQ hb HL7 d3
  have d5 := Blk.c3 q5
  clear q5
  simp only [show tAt [[120], []] 0 = [120] from rfl, show tAt [[120], []] 1 = [] from rfl] at t0 t1
  go_wp2_with fail
  go_ret
  exact ⟨by first | rfl | decide +kernel, HB8.out⟩
end Go.Proofs.Ytfonmnodjmeigaa
