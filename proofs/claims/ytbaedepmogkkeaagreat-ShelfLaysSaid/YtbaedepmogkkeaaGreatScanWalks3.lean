/- quill: rows scanned, what is left, the end: both sides walked. -/
import Derived.Test.YtbaedepmogkkeaaGreatScanWalks2
namespace Go.Proofs.YtbaedepmogkkeaaGreat
set_option linter.unusedSimpArgs false
set_option linter.unusedVariables false
open Go.RowKit

/-- A text and a Scan. -/
def RetTS (w : World) (x t : List UInt8) (p b : Int) (e : Ending) (w' : World) : Prop :=
  e = .returned (.tuple #[.string (bs x), .agg #[.string (bs t), .int .i64 p, .int .i64 b]]) ∧ Below w.heap.size w w'
theorem Blk.c3a {w : World} {g : Nat} {t : TypeId} {a b c : Value} (h : Blk w g t #[a, b, c]) (o : Obj) :
    ((w.alloc o).cell? ⟨g, 0, none⟩ = some a ∧ (w.alloc o).cell? ⟨g, 1, none⟩ = some b ∧ (w.alloc o).cell? ⟨g, 2, none⟩ = some c) := (h.alloc o).c3.1
theorem below_set3 {B : Nat} {a w : World} (h : Below B a w) {g : Nat} (hB : B ≤ g) (a' b' c' : Value) :
    Below B a (((w.setCell ⟨g, 0, none⟩ a').setCell ⟨g, 1, none⟩ b').setCell ⟨g, 2, none⟩ c') :=
  ((h.setCell (p := ⟨g, 0, none⟩) hB a').setCell (p := ⟨g, 1, none⟩) hB b').setCell (p := ⟨g, 2, none⟩) hB c'
theorem Blk.set3 {w : World} {g : Nat} {t : TypeId} {a b c : Value} (h : Blk w g t #[a, b, c]) (a' b' c' : Value) :
    Blk (((w.setCell ⟨g, 0, none⟩ a').setCell ⟨g, 1, none⟩ b').setCell ⟨g, 2, none⟩ c') g t #[a', b', c'] :=
  ((Blk.set h 0 a').set 1 b').set 2 c'

set_option maxRecDepth 100000 in
set_option maxHeartbeats 400000 in
theorem srow_bad (t : List UInt8) (p b p2 b2 : Int) (x : Nat) (w : World)
    (H : Hid (∀ w, Calls Tryz.prog 126 #[.agg #[.string (bs t), .int .i64 p, .int .i64 b], .int .i64 2] w (RetNS w x t p2 b2))) (hb : (b2 != 0) = true) :
    Calls Tryz.prog 127 #[.agg #[.string (bs t), .int .i64 p, .int .i64 b]] w (RetTS w [] t p2 b2) := by
  go_enter Tryz.func127, Tryz.ntmps127
  go_wp2_with fail
  refine (H.out _).mono ?_; rintro e w1 ⟨rfl, hb1⟩
  obtain ⟨k0, k1, hb', hz⟩ := two_boxes hb1
  clear hb1
  have c1 := Blk.c3 k1
  have HK := Lib.hid (And.intro k1 hb'); clear k0 k1 hb'
  go_wp2_with fail
  go_region
  go_wp2_with fail
  have kk : Blk w1 (w.heap.size + 1) 205 _ := HK.out.1
  exact bodyPost_ret (results_tmp_row rfl _ _ (w.heap.size + 1) 205 _ _ rfl ((Blk.set3 kk (.string (bs t)) (.int .i64 p2) (.int .i64 b2)).alloc _).drew Tryz.underlying205 rfl infoSc) rfl ⟨rfl, ((below_set3 HK.out.2 (g := w.heap.size + 1) (by omega) _ _ _).alloc (by simp; omega) _).drew⟩

set_option maxRecDepth 100000 in
set_option maxHeartbeats 400000 in
theorem srow_short (t : List UInt8) (p b p2 : Int) (x : Nat) (w : World)
    (H : Hid (∀ w, Calls Tryz.prog 126 #[.agg #[.string (bs t), .int .i64 p, .int .i64 b], .int .i64 2] w (RetNS w x t p2 0)))
    (h0 : 0 ≤ p2) (h1 : p2 ≤ (t.length : Int)) (hx : x < 65536) (h : (t.length : Int) - p2 < (x : Int)) (hl : t.length ≤ 9223372036854775807) :
    Calls Tryz.prog 127 #[.agg #[.string (bs t), .int .i64 p, .int .i64 b]] w (RetTS w [] t p 3) := by
  go_enter Tryz.func127, Tryz.ntmps127
  go_wp2_with fail
  refine (H.out _).mono ?_; rintro e w1 ⟨rfl, hb1⟩
  obtain ⟨k0, k1, hb', hz⟩ := two_boxes hb1
  clear hb1
  have c0 := Blk.c3 k0
  have c1 := Blk.c3 k1
  have ca := @Blk.c3a _ _ _ _ _ _ k0
  have HK := Lib.hid (And.intro k0 (And.intro k1 hb')); clear k0 k1 hb'
  go_wp2_with fail
  refine (left_any _ _ _ _ (by omega) (by omega) hl).mono ?_; rintro e w2 ⟨rfl, hb2⟩
  generalize hg : w1.heap.size = g1 at *
  have hz2 : g1 < w2.heap.size := by have := hb2.size; simp [hg] at this; omega
  have k2 : Blk w2 g1 205 _ := Blk.below (by rw [← hg]; exact Blk.new w1 205 #[.string (bs t), .int .i64 p2, .int .i64 0]) hb2 (by simp [hg])
  have k0 : Blk w2 w.heap.size 205 _ := Blk.below (by exact Blk.alloc (show Blk w1 _ _ _ from HK.out.1) (.cells #[.string (bs t), .int .i64 p2, .int .i64 0] 205)) hb2 (by simp [hg]; omega)
  have k1 : Blk w2 (w.heap.size + 1) 205 _ := Blk.below (by exact Blk.alloc (show Blk w1 _ _ _ from HK.out.2.1) (.cells #[.string (bs t), .int .i64 p2, .int .i64 0] 205)) hb2 (by simp [hg]; omega)
  have hb' : Below w.heap.size w w2 := (HK.out.2.2.alloc (by omega) (.cells #[.string (bs t), .int .i64 p2, .int .i64 0] 205)).trans (by subst hg; exact hb2.mono (by simp; omega))
  clear hb2 c0 c1 ca HK
  have c0 := Blk.c3 k0
  have c1 := Blk.c3 k1
  have c2 := Blk.c3 k2
  have HK := Lib.hid (And.intro k0 (And.intro k1 (And.intro k2 hb'))); clear k0 k1 k2 hb'
  go_wp2_with fail
  refine (fails_any _ _ _ _ _).mono ?_; rintro e w3 ⟨rfl, hb3⟩
  have k1 : Blk w3 (w.heap.size + 1) 205 _ := Blk.below HK.out.2.1 hb3 (by omega)
  have c1' := Blk.c3 k1
  have hb' := HK.out.2.2.2.trans (hb3.mono (by omega))
  clear hb3 c0 c1 c2 HK
  have HK := Lib.hid (And.intro k1 hb'); clear k1 hb'
  go_wp2_with fail
  exact bodyPost_ret (results_tmp_row rfl _ _ (w.heap.size + 1) 205 _ _ rfl (Blk.set3 HK.out.1 _ _ _) Tryz.underlying205 rfl infoSc) rfl ⟨rfl, below_set3 HK.out.2 (by omega) _ _ _⟩

set_option maxRecDepth 100000 in
set_option maxHeartbeats 400000 in
theorem srow_any (t : List UInt8) (p b : Int) (p2 x : Nat) (w : World)
    (H : Hid (∀ w, Calls Tryz.prog 126 #[.agg #[.string (bs t), .int .i64 p, .int .i64 b], .int .i64 2] w (RetNS w x t p2 0)))
    (hx : x < 65536) (h : p2 + x ≤ t.length) (hl : t.length ≤ 9223372036854775807) :
    Calls Tryz.prog 127 #[.agg #[.string (bs t), .int .i64 p, .int .i64 b]] w (RetTS w ((t.drop p2).take x) t ((p2 : Int) + (x : Int)) 0) := by
  go_enter Tryz.func127, Tryz.ntmps127
  go_wp2_with fail
  refine (H.out _).mono ?_; rintro e w1 ⟨rfl, hb1⟩
  obtain ⟨k0, k1, hb', hz⟩ := two_boxes hb1
  clear hb1
  have c0 := Blk.c3 k0
  have c1 := Blk.c3 k1
  have ca := @Blk.c3a _ _ _ _ _ _ k0
  have HK := Lib.hid (And.intro k0 (And.intro k1 hb')); clear k0 k1 hb'
  go_wp2_with fail
  refine (left_any _ _ _ _ (by omega) (by omega) hl).mono ?_; rintro e w2 ⟨rfl, hb2⟩
  generalize hg : w1.heap.size = g1 at *
  have hz2 : g1 < w2.heap.size := by have := hb2.size; simp [hg] at this; omega
  have k2 : Blk w2 g1 205 _ := Blk.below (by rw [← hg]; exact Blk.new w1 205 #[.string (bs t), .int .i64 p2, .int .i64 0]) hb2 (by simp [hg])
  have k0 : Blk w2 w.heap.size 205 _ := Blk.below (by exact Blk.alloc (show Blk w1 _ _ _ from HK.out.1) (.cells #[.string (bs t), .int .i64 p2, .int .i64 0] 205)) hb2 (by simp [hg]; omega)
  have k1 : Blk w2 (w.heap.size + 1) 205 _ := Blk.below (by exact Blk.alloc (show Blk w1 _ _ _ from HK.out.2.1) (.cells #[.string (bs t), .int .i64 p2, .int .i64 0] 205)) hb2 (by simp [hg]; omega)
  have hb' : Below w.heap.size w w2 := (HK.out.2.2.alloc (by omega) (.cells #[.string (bs t), .int .i64 p2, .int .i64 0] 205)).trans (by subst hg; exact hb2.mono (by simp; omega))
  clear hb2 c0 c1 ca HK
  have c0 := Blk.c3 k0
  have c1 := Blk.c3 k1
  have c2 := Blk.c3 k2
  have HK := Lib.hid (And.intro k0 (And.intro k1 (And.intro k2 hb'))); clear k0 k1 k2 hb'
  go_wp2_with fail
  go_region
  go_wp2_with fail
  have kk : Blk w2 (w.heap.size + 1) 205 _ := HK.out.2.1
  refine bodyPost_ret (results_tmp_row rfl _ _ (w.heap.size + 1) 205 _ _ rfl ((((kk.far (p := ⟨g1, 1, none⟩) (by simp; omega) (.int .i64 ((p2 : Int) + (x : Int)))).drew).set3 _ _ _)) Tryz.underlying205 rfl infoSc) rfl ⟨?_, ?_⟩
  · have e : (t.take ((p2 : Int) + (x : Int)).toNat).drop (p2 : Int).toNat = (t.drop p2).take x := by
      rw [← Int.natCast_add, Int.toNat_natCast, Int.toNat_natCast, List.drop_take, Nat.add_sub_cancel_left]
    first | rfl | (simp [List.drop_take] <;> done) | (rw [← e]; rfl)
  · exact below_set3 (((HK.out.2.2.2).setCell (p := ⟨g1, 1, none⟩) (by simp; omega) _).drew) (by omega) _ _ _

set_option maxRecDepth 100000 in
set_option maxHeartbeats 400000 in
theorem rrow_bad (t : List UInt8) (p b p2 b2 : Int) (x : Nat) (w : World)
    (H : Hid (∀ w, Calls Tryz.prog 135 #[.agg #[.string (bs t), .int .i64 p, .int .i64 b], .int .i64 2] w (RetNS w x t p2 b2))) (hb : (b2 != 0) = true) :
    Calls Tryz.prog 136 #[.agg #[.string (bs t), .int .i64 p, .int .i64 b]] w (RetTS w [] t p2 b2) := by
  go_enter Tryz.func136, Tryz.ntmps136
  go_wp2_with fail
  refine (H.out _).mono ?_; rintro e w1 ⟨rfl, hb1⟩
  obtain ⟨k0, k1, hb', hz⟩ := two_boxes hb1
  clear hb1
  have c1 := Blk.c3 k1
  have HK := Lib.hid (And.intro k1 hb'); clear k0 k1 hb'
  go_wp2_with fail
  go_region
  go_wp2_with fail
  have kk : Blk w1 (w.heap.size + 1) 219 _ := HK.out.1
  exact bodyPost_ret (results_tmp_row rfl _ _ (w.heap.size + 1) 219 _ _ rfl ((Blk.set3 kk (.string (bs t)) (.int .i64 p2) (.int .i64 b2)).alloc _).drew Tryz.underlying219 rfl infoRs) rfl ⟨rfl, ((below_set3 HK.out.2 (g := w.heap.size + 1) (by omega) _ _ _).alloc (by simp; omega) _).drew⟩

set_option maxRecDepth 100000 in
set_option maxHeartbeats 400000 in
theorem rrow_short (t : List UInt8) (p b p2 : Int) (x : Nat) (w : World)
    (H : Hid (∀ w, Calls Tryz.prog 135 #[.agg #[.string (bs t), .int .i64 p, .int .i64 b], .int .i64 2] w (RetNS w x t p2 0)))
    (h0 : 0 ≤ p2) (h1 : p2 ≤ (t.length : Int)) (hx : x < 65536) (h : (t.length : Int) - p2 < (x : Int)) (hl : t.length ≤ 9223372036854775807) :
    Calls Tryz.prog 136 #[.agg #[.string (bs t), .int .i64 p, .int .i64 b]] w (RetTS w [] t p 3) := by
  go_enter Tryz.func136, Tryz.ntmps136
  go_wp2_with fail
  refine (H.out _).mono ?_; rintro e w1 ⟨rfl, hb1⟩
  obtain ⟨k0, k1, hb', hz⟩ := two_boxes hb1
  clear hb1
  have c0 := Blk.c3 k0
  have c1 := Blk.c3 k1
  have ca := @Blk.c3a _ _ _ _ _ _ k0
  have HK := Lib.hid (And.intro k0 (And.intro k1 hb')); clear k0 k1 hb'
  go_wp2_with fail
  refine (rbad_any _ _ _ _ _).mono ?_; rintro e w3 ⟨rfl, hb3⟩
  generalize hg : w1.heap.size = g1 at *
  have k1 : Blk w3 (w.heap.size + 1) 219 _ := Blk.below (by exact Blk.alloc (show Blk w1 _ _ _ from HK.out.2.1) (.cells #[.string (bs t), .int .i64 p2, .int .i64 0] 219)) hb3 (by simp [hg]; omega)
  have c1' := Blk.c3 k1
  have hb' : Below w.heap.size w w3 := (HK.out.2.2.alloc (by omega) (.cells #[.string (bs t), .int .i64 p2, .int .i64 0] 219)).trans (by subst hg; exact hb3.mono (by simp; omega))
  clear hb3 c0 c1 ca HK
  have HK := Lib.hid (And.intro k1 hb'); clear k1 hb'
  go_wp2_with fail
  exact bodyPost_ret (results_tmp_row rfl _ _ (w.heap.size + 1) 219 _ _ rfl (Blk.set3 HK.out.1 _ _ _) Tryz.underlying219 rfl infoRs) rfl ⟨rfl, below_set3 HK.out.2 (by omega) _ _ _⟩

set_option maxRecDepth 100000 in
set_option maxHeartbeats 400000 in
theorem rrow_any (t : List UInt8) (p b : Int) (p2 x : Nat) (w : World)
    (H : Hid (∀ w, Calls Tryz.prog 135 #[.agg #[.string (bs t), .int .i64 p, .int .i64 b], .int .i64 2] w (RetNS w x t p2 0)))
    (hx : x < 65536) (h : p2 + x ≤ t.length) (hl : t.length ≤ 9223372036854775807) :
    Calls Tryz.prog 136 #[.agg #[.string (bs t), .int .i64 p, .int .i64 b]] w (RetTS w ((t.drop p2).take x) t ((p2 : Int) + (x : Int)) 0) := by
  go_enter Tryz.func136, Tryz.ntmps136
  go_wp2_with fail
  refine (H.out _).mono ?_; rintro e w1 ⟨rfl, hb1⟩
  obtain ⟨k0, k1, hb', hz⟩ := two_boxes hb1
  clear hb1
  have c0 := Blk.c3 k0
  have c1 := Blk.c3 k1
  have ca := @Blk.c3a _ _ _ _ _ _ k0
  have HK := Lib.hid (And.intro k0 (And.intro k1 hb')); clear k0 k1 hb'
  go_wp2_with fail
  go_region
  go_wp2_with fail
  have kk : Blk w1 (w.heap.size + 1) 219 _ := HK.out.2.1
  refine bodyPost_ret (results_tmp_row rfl _ _ (w.heap.size + 1) 219 _ _ rfl ((Blk.set3 kk (.string (bs t)) (.int .i64 ((p2 : Int) + (x : Int))) (.int .i64 0)).alloc _).drew Tryz.underlying219 rfl infoRs) rfl ⟨?_, ?_⟩
  · have e : (t.take ((p2 : Int) + (x : Int)).toNat).drop (p2 : Int).toNat = (t.drop p2).take x := by
      rw [← Int.natCast_add, Int.toNat_natCast, Int.toNat_natCast, List.drop_take, Nat.add_sub_cancel_left]
    first | rfl | (simp [List.drop_take] <;> done) | (rw [← e]; rfl)
  · exact ((below_set3 HK.out.2.2 (g := w.heap.size + 1) (by omega) _ _ _).alloc (by simp; omega) _).drew
end Go.Proofs.YtbaedepmogkkeaaGreat
