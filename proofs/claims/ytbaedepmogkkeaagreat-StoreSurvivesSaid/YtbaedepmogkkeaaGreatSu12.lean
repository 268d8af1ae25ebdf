/- What the claim stands on, Su12: contracts of functions and plain facts. No conditions. -/
import Derived.Test.YtbaedepmogkkeaaGreatSu11
namespace Go.Proofs.YtbaedepmogkkeaaGreat
set_option linter.unusedSimpArgs false
set_option linter.unusedVariables false
set_option maxRecDepth 100000
open Go.RowKit
set_option maxHeartbeats 400000 in
theorem rstands_yes (t : List UInt8) (p b : Int) (w : World) (h0 : 0 ≤ p) (h1 : p ≤ (t.length : Int)) :
  Calls Tryz.prog 187 #[.agg #[.string (bs t), .int .i64 p, .int .i64 b]] w fun e w' => e = .returned (.bool true) ∧ Below w.heap.size w w' := by
 go_enter Tryz.func187, Tryz.ntmps187
 go_wp2
 go_ret
 exact ⟨rfl, (Below.refl _ _).alloc (Nat.le_refl _) _⟩
set_option maxHeartbeats 400000 in
theorem rstands_no (t : List UInt8) (p b : Int) (w : World) (h : p < 0 ∨ (t.length : Int) < p) (hl : t.length ≤ 9223372036854775807) :
  Calls Tryz.prog 187 #[.agg #[.string (bs t), .int .i64 p, .int .i64 b]] w fun e w' => e = .returned (.bool false) ∧ Below w.heap.size w w' := by
 by_cases h0 : 0 ≤ p
 ·have h2 : (t.length : Int) < p := by omega
  clear h
  go_enter Tryz.func187, Tryz.ntmps187
  go_wp2
  go_ret
  exact ⟨by simp; try omega, (Below.refl _ _).alloc (Nat.le_refl _) _⟩
 ·have h2 : decide (0 ≤ p) = false := by simpa using h0
  clear h
  go_enter Tryz.func187, Tryz.ntmps187
  go_wp2
  go_ret
  exact ⟨by first | rfl | (simp; omega), (Below.refl _ _).alloc (Nat.le_refl _) _⟩
set_option maxHeartbeats 400000 in
theorem rbad_any (t : List UInt8) (p b e : Int) (w : World) :
  Calls Tryz.prog 188 #[.agg #[.string (bs t), .int .i64 p, .int .i64 b], .int .i64 e] w fun r w' => r = .returned (.agg #[.string (bs t), .int .i64 p, .int .i64 e]) ∧ Below w.heap.size w w' := by
 go_enter Tryz.func188, Tryz.ntmps188
 go_wp2
 exact bodyPost_ret (v := .agg #[.string (bs t), .int .i64 p, .int .i64 e]) (by simp [results, Tryz.results188, go_sem]) rfl ⟨rfl, ((Below.refl _ _).alloc (Nat.le_refl _) _).alloc (by simp) _⟩
theorem infoRs : (Tryz.prog.info? 219).map (·.size) = some 3 := by kernel_rfl
theorem byteAt_drop (t : List UInt8) (p k : Nat) : byteAt (t.drop p) k = byteAt t (p + k) := by
 simp [byteAt, List.getElem?_drop]
theorem tell_at (t : List UInt8) (p k : Nat) (h : p + k < t.length) :
  Quill.tell ((t.drop p).take (k + 1)) = Quill.tell ((t.drop p).take k) * 256 + (byteAt t (p + k)).toNat := by
 rw [take_snoc _ k (by rw [List.length_drop]; omega), Quill.tell_snoc, byteAt_drop]
theorem tell_small (l : List UInt8) (k : Nat) (hk : k ≤ 7) : Quill.tell (l.take k) < 72057594037927936 := by
 have h := Quill.tell_lt (l.take k)
 have h2 : (l.take k).length ≤ 7 := by rw [List.length_take]; omega
 have hp : 256 ^ (l.take k).length ≤ 256 ^ 7 := Nat.pow_le_pow_right (by omega) h2
 exact Nat.lt_of_lt_of_le h hp
set_option maxHeartbeats 400000 in
theorem rnum_bad (t : List UInt8) (p b size : Int) (w : World) (hb : (b != 0) = true) :
  Calls Tryz.prog 135 #[.agg #[.string (bs t), .int .i64 p, .int .i64 b], .int .i64 size] w (RetNS w 0 t p b) := by
 go_enter Tryz.func135, Tryz.ntmps135
 go_wp2_with fail
 go_region
 go_wp2_with fail
 exact bodyPost_ret (results_tmp_row rfl _ _ (w.heap.size + 1) 219 _ _ rfl (Blk.new2 w _ _ _) Tryz.underlying219 rfl infoRs) rfl ⟨rfl, (((Below.refl _ _).alloc (Nat.le_refl _) _).alloc (by simp) _).drew⟩
set_option maxRecDepth 100000 in
set_option maxHeartbeats 400000 in
theorem rnum_any (t : List UInt8) (p size : Nat) (w : World) (h1 : p + size ≤ t.length) (hs1 : 1 ≤ size) (hs8 : size ≤ 8) (hl : t.length ≤ 70368744177664) :
  Calls Tryz.prog 135 #[.agg #[.string (bs t), .int .i64 p, .int .i64 0], .int .i64 size] w (RetNS w (Quill.tell ((t.drop p).take size)) t ((p + size : Nat) : Int) 0) := by
 go_enter Tryz.func135, Tryz.ntmps135
 go_wp2_with fail
 refine (rstands_yes _ _ _ _ (by omega) (by omega)).mono ?_; rintro e w1 ⟨rfl, hb1⟩
 obtain ⟨k0, k1, hb, hz⟩ := two_boxes hb1
 clear hb1
 have c0 := Blk.c3 k0
 have c1 := Blk.c3 k1
 have HK := Lib.hid (And.intro k1 hb); clear k0 k1 hb
 go_wp2_with fail
 go_loop [6, 7] (fun n i => ∃ k : Nat, k ≤ size ∧ i = .int .i64 k ∧ n = .int .u64 (Quill.tell ((t.drop p).take k) : Nat)) (fun _ i => size - (intOf i).toNat)
 case atStart => exact ⟨0, by omega, rfl, rfl⟩
 case round =>
  obtain ⟨k, hk, rfl, rfl⟩ := hrel
  by_cases hlt : k < size
  ·have hki : (k : Int) < (size : Int) := by omega
   have hT := tell_small (t.drop p) k (by omega)
   have hS := Lib.hid (tell_at t p k (by omega))
   obtain ⟨T, hTe⟩ : ∃ T, T = Quill.tell ((t.drop p).take k) := ⟨_, rfl⟩
   rw [← hTe] at hT hS ⊢
   have HTe := Lib.hid hTe; clear hTe
   have hbt := (byteAt t (p + k)).toNat_lt
   go_wp2_with fail
   go_round
   case rel => exact ⟨k + 1, by omega, by go_num, by rw [hS.out]; first | rfl | exact val_of (by omega) | go_num⟩
   case measure => simp [intOf]; omega
  ·obtain rfl : k = size := by omega
   go_wp2_with fail
   go_region
   go_wp2_with fail
   have hB : Blk _ (w.heap.size + 1) 219 #[.string (bs t), .int .i64 ((p : Int) + (k : Int)), .int .i64 0] :=
    (((Blk.set HK.out.1 0 (.string (bs t))).set 1 (.int .i64 ((p : Int) + (k : Int)))).set 2 (.int .i64 0)).drew
   refine bodyPost_ret (results_tmp_row rfl _ _ (w.heap.size + 1) 219 _ _ rfl hB Tryz.underlying219 rfl infoRs) rfl ⟨?_, ?_⟩
   ·show Ending.returned (.tuple #[.int .u64 _, _]) = _
    rw [Int.natCast_add]
   ·exact (((HK.out.2.setCell (p := ⟨w.heap.size + 1, 0, none⟩) (by simp) _).setCell (p := ⟨w.heap.size + 1, 1, none⟩) (by simp) _).setCell (p := ⟨w.heap.size + 1, 2, none⟩) (by simp) _).drew
set_option maxRecDepth 100000 in
set_option maxHeartbeats 400000 in
theorem rnum_arg (t : List UInt8) (p size : Int) (w : World) (h : (p < 0 ∨ (t.length : Int) < p) ∨ (size < 1 ∨ 8 < size)) (hl : t.length ≤ 9223372036854775807) :
  Calls Tryz.prog 135 #[.agg #[.string (bs t), .int .i64 p, .int .i64 0], .int .i64 size] w (RetNS w 0 t p 2) := by
 have HH := Lib.hid h; clear h
 by_cases hst : p < 0 ∨ (t.length : Int) < p
 ·have HS := Lib.hid hst; clear hst
  go_enter Tryz.func135, Tryz.ntmps135
  go_wp2_with fail
  refine (rstands_no _ _ _ _ HS.out hl).mono ?_; rintro e w1 ⟨rfl, hb1⟩
  obtain ⟨k0, k1, hb, hz⟩ := two_boxes hb1
  clear hb1
  have c0 := Blk.c3 k0
  have HK := Lib.hid (And.intro k0 (And.intro k1 hb)); clear k0 k1 hb
  go_wp2_with fail
  refine (rbad_any _ _ _ _ _).mono ?_; rintro e w2 ⟨rfl, hb2⟩
  have k1 : Blk w2 (w.heap.size + 1) _ _ := Blk.below HK.out.2.1 hb2 (by omega)
  have c1 := Blk.c3 k1
  have hb := HK.out.2.2.trans (hb2.mono (by omega))
  clear c0 hb2 HK
  have HK := Lib.hid (And.intro k1 hb); clear k1 hb
  go_wp2_with fail
  have hB : Blk _ (w.heap.size + 1) 219 #[.string (bs t), .int .i64 p, .int .i64 2] := ((HK.out.1.set 0 (.string (bs t))).set 1 (.int .i64 p)).set 2 (.int .i64 2)
  exact bodyPost_ret (results_tmp_row rfl _ _ (w.heap.size + 1) 219 _ _ rfl hB Tryz.underlying219 rfl infoRs) rfl ⟨rfl, ((HK.out.2.setCell (p := ⟨w.heap.size + 1, 0, none⟩) (by simp) _).setCell (p := ⟨w.heap.size + 1, 1, none⟩) (by simp) _).setCell (p := ⟨w.heap.size + 1, 2, none⟩) (by simp) _⟩
 ·have hst' : 0 ≤ p ∧ p ≤ (t.length : Int) := by omega
  have hsz : size < 1 ∨ 8 < size := by rcases HH.out with h | h
                                       · exact absurd h hst
                                       · exact h
  clear hst
  by_cases hs : size < 1
  ·clear hsz
   go_enter Tryz.func135, Tryz.ntmps135
   go_wp2_with fail
   refine (rstands_yes _ _ _ _ hst'.1 hst'.2).mono ?_; rintro e w1 ⟨rfl, hb1⟩
   obtain ⟨k0, k1, hb, hz⟩ := two_boxes hb1
   clear hb1
   have c0 := Blk.c3 k0
   have HK := Lib.hid (And.intro k0 (And.intro k1 hb)); clear k0 k1 hb
   go_wp2_with fail
   refine (rbad_any _ _ _ _ _).mono ?_; rintro e w2 ⟨rfl, hb2⟩
   have k1 : Blk w2 (w.heap.size + 1) _ _ := Blk.below HK.out.2.1 hb2 (by omega)
   have c1 := Blk.c3 k1
   have hb := HK.out.2.2.trans (hb2.mono (by omega))
   clear c0 hb2 HK
   have HK := Lib.hid (And.intro k1 hb); clear k1 hb
   go_wp2_with fail
   have hB : Blk _ (w.heap.size + 1) 219 #[.string (bs t), .int .i64 p, .int .i64 2] := ((HK.out.1.set 0 (.string (bs t))).set 1 (.int .i64 p)).set 2 (.int .i64 2)
   exact bodyPost_ret (results_tmp_row rfl _ _ (w.heap.size + 1) 219 _ _ rfl hB Tryz.underlying219 rfl infoRs) rfl ⟨rfl, ((HK.out.2.setCell (p := ⟨w.heap.size + 1, 0, none⟩) (by simp) _).setCell (p := ⟨w.heap.size + 1, 1, none⟩) (by simp) _).setCell (p := ⟨w.heap.size + 1, 2, none⟩) (by simp) _⟩
  ·have hs2 : 8 < size := by omega
   have hs3 : 1 ≤ size := by omega
   clear hsz hs
   go_enter Tryz.func135, Tryz.ntmps135
   go_wp2_with fail
   refine (rstands_yes _ _ _ _ hst'.1 hst'.2).mono ?_; rintro e w1 ⟨rfl, hb1⟩
   obtain ⟨k0, k1, hb, hz⟩ := two_boxes hb1
   clear hb1
   have c0 := Blk.c3 k0
   have HK := Lib.hid (And.intro k0 (And.intro k1 hb)); clear k0 k1 hb
   go_wp2_with fail
   refine (rbad_any _ _ _ _ _).mono ?_; rintro e w2 ⟨rfl, hb2⟩
   have k1 : Blk w2 (w.heap.size + 1) _ _ := Blk.below HK.out.2.1 hb2 (by omega)
   have c1 := Blk.c3 k1
   have hb := HK.out.2.2.trans (hb2.mono (by omega))
   clear c0 hb2 HK
   have HK := Lib.hid (And.intro k1 hb); clear k1 hb
   go_wp2_with fail
   have hB : Blk _ (w.heap.size + 1) 219 #[.string (bs t), .int .i64 p, .int .i64 2] := ((HK.out.1.set 0 (.string (bs t))).set 1 (.int .i64 p)).set 2 (.int .i64 2)
   exact bodyPost_ret (results_tmp_row rfl _ _ (w.heap.size + 1) 219 _ _ rfl hB Tryz.underlying219 rfl infoRs) rfl ⟨rfl, ((HK.out.2.setCell (p := ⟨w.heap.size + 1, 0, none⟩) (by simp) _).setCell (p := ⟨w.heap.size + 1, 1, none⟩) (by simp) _).setCell (p := ⟨w.heap.size + 1, 2, none⟩) (by simp) _⟩
set_option maxRecDepth 100000 in
set_option maxHeartbeats 400000 in
theorem rnum_short (t : List UInt8) (p size : Int) (w : World) (h0 : 0 ≤ p) (h1 : p ≤ (t.length : Int)) (hs1 : 1 ≤ size) (hs8 : size ≤ 8) (h : (t.length : Int) - p < size) (hl : t.length ≤ 9223372036854775807) :
  Calls Tryz.prog 135 #[.agg #[.string (bs t), .int .i64 p, .int .i64 0], .int .i64 size] w (RetNS w 0 t p 3) := by
 go_enter Tryz.func135, Tryz.ntmps135
 go_wp2_with fail
 refine (rstands_yes _ _ _ _ h0 h1).mono ?_; rintro e w1 ⟨rfl, hb1⟩
 obtain ⟨k0, k1, hb, hz⟩ := two_boxes hb1
 clear hb1
 have c0 := Blk.c3 k0
 have HK := Lib.hid (And.intro k0 (And.intro k1 hb)); clear k0 k1 hb
 go_wp2_with fail
 refine (rbad_any _ _ _ _ _).mono ?_; rintro e w3 ⟨rfl, hb3⟩
 have k1 : Blk w3 (w.heap.size + 1) _ _ := Blk.below HK.out.2.1 hb3 (by omega)
 have c1 := Blk.c3 k1
 have hb := HK.out.2.2.trans (hb3.mono (by omega))
 clear c0 hb3 HK
 have HK := Lib.hid (And.intro k1 hb); clear k1 hb
 go_wp2_with fail
 have hB : Blk _ (w.heap.size + 1) 219 #[.string (bs t), .int .i64 p, .int .i64 3] := ((HK.out.1.set 0 (.string (bs t))).set 1 (.int .i64 p)).set 2 (.int .i64 3)
 exact bodyPost_ret (results_tmp_row rfl _ _ (w.heap.size + 1) 219 _ _ rfl hB Tryz.underlying219 rfl infoRs) rfl ⟨rfl, ((HK.out.2.setCell (p := ⟨w.heap.size + 1, 0, none⟩) (by simp) _).setCell (p := ⟨w.heap.size + 1, 1, none⟩) (by simp) _).setCell (p := ⟨w.heap.size + 1, 2, none⟩) (by simp) _⟩
theorem rnum (s : Quill.Sc) (size : Int) (w : World) (hl : s.text.length ≤ 70368744177664) :
  Calls Tryz.prog 135 #[.agg #[.string (bs s.text), .int .i64 s.pos, .int .i64 s.bad], .int .i64 size] w (RetNS w (s.num size).1 s.text (s.num size).2.pos (s.num size).2.bad) := by
 obtain ⟨t, p, b⟩ := s
 simp only at hl ⊢
 unfold Quill.Sc.num
 by_cases hb : b = 0
 ·subst hb
  simp only [ne_eq, not_true_eq_false, if_false]
  by_cases h1 : Quill.Sc.stands ⟨t, p, 0⟩ = false ∨ size < 1 ∨ 8 < size
  ·rw [if_pos h1]
   refine rnum_arg t p size w ?_ (by omega)
   rcases h1 with h1 | h1
   ·left; simp [Quill.Sc.stands] at h1; omega
   ·right; exact h1
  ·rw [if_neg h1]
   have hst : 0 ≤ p ∧ p ≤ (t.length : Int) := by
    have : ¬ Quill.Sc.stands ⟨t, p, 0⟩ = false := fun h => h1 (.inl h)
    simpa [Quill.Sc.stands] using this
   have hsz : 1 ≤ size ∧ size ≤ 8 := by omega
   by_cases h2 : (t.length : Int) - p < size
   ·rw [if_pos h2]
    exact rnum_short t p size w hst.1 hst.2 hsz.1 hsz.2 h2 (by omega)
   ·rw [if_neg h2]
    obtain ⟨q, rfl⟩ := Int.eq_ofNat_of_zero_le hst.1
    obtain ⟨z, rfl⟩ := Int.eq_ofNat_of_zero_le (show 0 ≤ size by omega)
    have h := rnum_any t q z w (by omega) (by omega) (by omega) hl
    simpa using h
 ·rw [if_pos hb]
  exact rnum_bad t p b size w (by simpa using hb)
end Go.Proofs.YtbaedepmogkkeaaGreat
namespace Go.Proofs.YtbaedepmogkkeaaGreat
set_option linter.unusedSimpArgs false
set_option linter.unusedVariables false
open Go.RowKit
def RetTS (w : World) (x t : List UInt8) (p b : Int) (e : Ending) (w' : World) : Prop :=
 e = .returned (.tuple #[.string (bs x), .agg #[.string (bs t), .int .i64 p, .int .i64 b]]) ∧ Below w.heap.size w w'
theorem Blk.c3a {w : World} {g : Nat} {t : TypeId} {a b c : Value} (h : Blk w g t #[a, b, c]) (o : Obj) :
  ((w.alloc o).cell? ⟨g, 0, none⟩ = some a ∧ (w.alloc o).cell? ⟨g, 1, none⟩ = some b ∧ (w.alloc o).cell? ⟨g, 2, none⟩ = some c) := (h.alloc o).c3.1
theorem below_set3 {B : Nat} {a w : World} (h : Below B a w) {g : Nat} (hB : B ≤ g) (a' b' c' : Value) :
  Below B a (((w.setCell ⟨g, 0, none⟩ a').setCell ⟨g, 1, none⟩ b').setCell ⟨g, 2, none⟩ c') :=
 ((h.setCell (p := ⟨g, 0, none⟩) hB a').setCell (p := ⟨g, 1, none⟩) hB b').setCell (p := ⟨g, 2, none⟩) hB c'
theorem Blk.set3 {w : World} {g : Nat} {t : TypeId} {a b c : Value} (h : Blk w g t #[a, b, c]) (a' b' c' : Value) :
  Blk (((w.setCell ⟨g, 0, none⟩ a').setCell ⟨g, 1, none⟩ b').setCell ⟨g, 2, none⟩ c') g t #[a', b', c'] :=
 ((Blk.set h 0 a').set 1 b').set 2 c'
set_option maxRecDepth 100000 in
set_option maxHeartbeats 400000 in
theorem srow_bad (t : List UInt8) (p b p2 b2 : Int) (x : Nat) (w : World)
  (H : Hid (∀ w, Calls Tryz.prog 126 #[.agg #[.string (bs t), .int .i64 p, .int .i64 b], .int .i64 2] w (RetNS w x t p2 b2))) (hb : (b2 != 0) = true) :
  Calls Tryz.prog 127 #[.agg #[.string (bs t), .int .i64 p, .int .i64 b]] w (RetTS w [] t p2 b2) := by
 go_enter Tryz.func127, Tryz.ntmps127
 go_wp2_with fail
 refine (H.out _).mono ?_; rintro e w1 ⟨rfl, hb1⟩
 obtain ⟨k0, k1, hb', hz⟩ := two_boxes hb1
 clear hb1
 have c1 := Blk.c3 k1
 have HK := Lib.hid (And.intro k1 hb'); clear k0 k1 hb'
 go_wp2_with fail
 go_region
 go_wp2_with fail
 have kk : Blk w1 (w.heap.size + 1) 205 _ := HK.out.1
 exact bodyPost_ret (results_tmp_row rfl _ _ (w.heap.size + 1) 205 _ _ rfl ((Blk.set3 kk (.string (bs t)) (.int .i64 p2) (.int .i64 b2)).alloc _).drew Tryz.underlying205 rfl infoSc) rfl ⟨rfl, ((below_set3 HK.out.2 (g := w.heap.size + 1) (by omega) _ _ _).alloc (by simp; omega) _).drew⟩
set_option maxRecDepth 100000 in
set_option maxHeartbeats 400000 in
theorem srow_short (t : List UInt8) (p b p2 : Int) (x : Nat) (w : World)
  (H : Hid (∀ w, Calls Tryz.prog 126 #[.agg #[.string (bs t), .int .i64 p, .int .i64 b], .int .i64 2] w (RetNS w x t p2 0)))
  (h0 : 0 ≤ p2) (h1 : p2 ≤ (t.length : Int)) (hx : x < 65536) (h : (t.length : Int) - p2 < (x : Int)) (hl : t.length ≤ 9223372036854775807) :
  Calls Tryz.prog 127 #[.agg #[.string (bs t), .int .i64 p, .int .i64 b]] w (RetTS w [] t p 3) := by
 go_enter Tryz.func127, Tryz.ntmps127
 go_wp2_with fail
 refine (H.out _).mono ?_; rintro e w1 ⟨rfl, hb1⟩
 obtain ⟨k0, k1, hb', hz⟩ := two_boxes hb1
 clear hb1
 have c0 := Blk.c3 k0
 have c1 := Blk.c3 k1
 have ca := @Blk.c3a _ _ _ _ _ _ k0
 have HK := Lib.hid (And.intro k0 (And.intro k1 hb')); clear k0 k1 hb'
 go_wp2_with fail
 refine (left_any _ _ _ _ (by omega) (by omega) hl).mono ?_; rintro e w2 ⟨rfl, hb2⟩
 generalize hg : w1.heap.size = g1 at *
 have hz2 : g1 < w2.heap.size := by have := hb2.size; simp [hg] at this; omega
 have k2 : Blk w2 g1 205 _ := Blk.below (by rw [← hg]; exact Blk.new w1 205 #[.string (bs t), .int .i64 p2, .int .i64 0]) hb2 (by simp [hg])
 have k0 : Blk w2 w.heap.size 205 _ := Blk.below (by exact Blk.alloc (show Blk w1 _ _ _ from HK.out.1) (.cells #[.string (bs t), .int .i64 p2, .int .i64 0] 205)) hb2 (by simp [hg]; omega)
 have k1 : Blk w2 (w.heap.size + 1) 205 _ := Blk.below (by exact Blk.alloc (show Blk w1 _ _ _ from HK.out.2.1) (.cells #[.string (bs t), .int .i64 p2, .int .i64 0] 205)) hb2 (by simp [hg]; omega)
 have hb' : Below w.heap.size w w2 := (HK.out.2.2.alloc (by omega) (.cells #[.string (bs t), .int .i64 p2, .int .i64 0] 205)).trans (by subst hg; exact hb2.mono (by simp; omega))
 clear hb2 c0 c1 ca HK
 have c0 := Blk.c3 k0
 have c1 := Blk.c3 k1
 have c2 := Blk.c3 k2
 have HK := Lib.hid (And.intro k0 (And.intro k1 (And.intro k2 hb'))); clear k0 k1 k2 hb'
 go_wp2_with fail
 refine (fails_any _ _ _ _ _).mono ?_; rintro e w3 ⟨rfl, hb3⟩
 have k1 : Blk w3 (w.heap.size + 1) 205 _ := Blk.below HK.out.2.1 hb3 (by omega)
 have c1' := Blk.c3 k1
 have hb' := HK.out.2.2.2.trans (hb3.mono (by omega))
 clear hb3 c0 c1 c2 HK
 have HK := Lib.hid (And.intro k1 hb'); clear k1 hb'
 go_wp2_with fail
 exact bodyPost_ret (results_tmp_row rfl _ _ (w.heap.size + 1) 205 _ _ rfl (Blk.set3 HK.out.1 _ _ _) Tryz.underlying205 rfl infoSc) rfl ⟨rfl, below_set3 HK.out.2 (by omega) _ _ _⟩
set_option maxRecDepth 100000 in
set_option maxHeartbeats 400000 in
theorem srow_any (t : List UInt8) (p b : Int) (p2 x : Nat) (w : World)
  (H : Hid (∀ w, Calls Tryz.prog 126 #[.agg #[.string (bs t), .int .i64 p, .int .i64 b], .int .i64 2] w (RetNS w x t p2 0)))
  (hx : x < 65536) (h : p2 + x ≤ t.length) (hl : t.length ≤ 9223372036854775807) :
  Calls Tryz.prog 127 #[.agg #[.string (bs t), .int .i64 p, .int .i64 b]] w (RetTS w ((t.drop p2).take x) t ((p2 : Int) + (x : Int)) 0) := by
 go_enter Tryz.func127, Tryz.ntmps127
 go_wp2_with fail
 refine (H.out _).mono ?_; rintro e w1 ⟨rfl, hb1⟩
 obtain ⟨k0, k1, hb', hz⟩ := two_boxes hb1
 clear hb1
 have c0 := Blk.c3 k0
 have c1 := Blk.c3 k1
 have ca := @Blk.c3a _ _ _ _ _ _ k0
 have HK := Lib.hid (And.intro k0 (And.intro k1 hb')); clear k0 k1 hb'
 go_wp2_with fail
 refine (left_any _ _ _ _ (by omega) (by omega) hl).mono ?_; rintro e w2 ⟨rfl, hb2⟩
 generalize hg : w1.heap.size = g1 at *
 have hz2 : g1 < w2.heap.size := by have := hb2.size; simp [hg] at this; omega
 have k2 : Blk w2 g1 205 _ := Blk.below (by rw [← hg]; exact Blk.new w1 205 #[.string (bs t), .int .i64 p2, .int .i64 0]) hb2 (by simp [hg])
 have k0 : Blk w2 w.heap.size 205 _ := Blk.below (by exact Blk.alloc (show Blk w1 _ _ _ from HK.out.1) (.cells #[.string (bs t), .int .i64 p2, .int .i64 0] 205)) hb2 (by simp [hg]; omega)
 have k1 : Blk w2 (w.heap.size + 1) 205 _ := Blk.below (by exact Blk.alloc (show Blk w1 _ _ _ from HK.out.2.1) (.cells #[.string (bs t), .int .i64 p2, .int .i64 0] 205)) hb2 (by simp [hg]; omega)
 have hb' : Below w.heap.size w w2 := (HK.out.2.2.alloc (by omega) (.cells #[.string (bs t), .int .i64 p2, .int .i64 0] 205)).trans (by subst hg; exact hb2.mono (by simp; omega))
 clear hb2 c0 c1 ca HK
 have c0 := Blk.c3 k0
 have c1 := Blk.c3 k1
 have c2 := Blk.c3 k2
 have HK := Lib.hid (And.intro k0 (And.intro k1 (And.intro k2 hb'))); clear k0 k1 k2 hb'
 go_wp2_with fail
 go_region
 go_wp2_with fail
 have kk : Blk w2 (w.heap.size + 1) 205 _ := HK.out.2.1
 refine bodyPost_ret (results_tmp_row rfl _ _ (w.heap.size + 1) 205 _ _ rfl ((((kk.far (p := ⟨g1, 1, none⟩) (by simp; omega) (.int .i64 ((p2 : Int) + (x : Int)))).drew).set3 _ _ _)) Tryz.underlying205 rfl infoSc) rfl ⟨?_, ?_⟩
 ·have e : (t.take ((p2 : Int) + (x : Int)).toNat).drop (p2 : Int).toNat = (t.drop p2).take x := by
   rw [← Int.natCast_add, Int.toNat_natCast, Int.toNat_natCast, List.drop_take, Nat.add_sub_cancel_left]
  first | rfl | (simp [List.drop_take] <;> done) | (rw [← e]; rfl)
 ·exact below_set3 (((HK.out.2.2.2).setCell (p := ⟨g1, 1, none⟩) (by simp; omega) _).drew) (by omega) _ _ _
set_option maxRecDepth 100000 in
set_option maxHeartbeats 400000 in
theorem rrow_bad (t : List UInt8) (p b p2 b2 : Int) (x : Nat) (w : World)
  (H : Hid (∀ w, Calls Tryz.prog 135 #[.agg #[.string (bs t), .int .i64 p, .int .i64 b], .int .i64 2] w (RetNS w x t p2 b2))) (hb : (b2 != 0) = true) :
  Calls Tryz.prog 136 #[.agg #[.string (bs t), .int .i64 p, .int .i64 b]] w (RetTS w [] t p2 b2) := by
 go_enter Tryz.func136, Tryz.ntmps136
 go_wp2_with fail
 refine (H.out _).mono ?_; rintro e w1 ⟨rfl, hb1⟩
 obtain ⟨k0, k1, hb', hz⟩ := two_boxes hb1
 clear hb1
 have c1 := Blk.c3 k1
 have HK := Lib.hid (And.intro k1 hb'); clear k0 k1 hb'
 go_wp2_with fail
 go_region
 go_wp2_with fail
 have kk : Blk w1 (w.heap.size + 1) 219 _ := HK.out.1
 exact bodyPost_ret (results_tmp_row rfl _ _ (w.heap.size + 1) 219 _ _ rfl ((Blk.set3 kk (.string (bs t)) (.int .i64 p2) (.int .i64 b2)).alloc _).drew Tryz.underlying219 rfl infoRs) rfl ⟨rfl, ((below_set3 HK.out.2 (g := w.heap.size + 1) (by omega) _ _ _).alloc (by simp; omega) _).drew⟩
set_option maxRecDepth 100000 in
set_option maxHeartbeats 400000 in
theorem rrow_short (t : List UInt8) (p b p2 : Int) (x : Nat) (w : World)
  (H : Hid (∀ w, Calls Tryz.prog 135 #[.agg #[.string (bs t), .int .i64 p, .int .i64 b], .int .i64 2] w (RetNS w x t p2 0)))
  (h0 : 0 ≤ p2) (h1 : p2 ≤ (t.length : Int)) (hx : x < 65536) (h : (t.length : Int) - p2 < (x : Int)) (hl : t.length ≤ 9223372036854775807) :
  Calls Tryz.prog 136 #[.agg #[.string (bs t), .int .i64 p, .int .i64 b]] w (RetTS w [] t p 3) := by
 go_enter Tryz.func136, Tryz.ntmps136
 go_wp2_with fail
 refine (H.out _).mono ?_; rintro e w1 ⟨rfl, hb1⟩
 obtain ⟨k0, k1, hb', hz⟩ := two_boxes hb1
 clear hb1
 have c0 := Blk.c3 k0
 have c1 := Blk.c3 k1
 have ca := @Blk.c3a _ _ _ _ _ _ k0
 have HK := Lib.hid (And.intro k0 (And.intro k1 hb')); clear k0 k1 hb'
 go_wp2_with fail
 refine (rbad_any _ _ _ _ _).mono ?_; rintro e w3 ⟨rfl, hb3⟩
 generalize hg : w1.heap.size = g1 at *
 have k1 : Blk w3 (w.heap.size + 1) 219 _ := Blk.below (by exact Blk.alloc (show Blk w1 _ _ _ from HK.out.2.1) (.cells #[.string (bs t), .int .i64 p2, .int .i64 0] 219)) hb3 (by simp [hg]; omega)
 have c1' := Blk.c3 k1
 have hb' : Below w.heap.size w w3 := (HK.out.2.2.alloc (by omega) (.cells #[.string (bs t), .int .i64 p2, .int .i64 0] 219)).trans (by subst hg; exact hb3.mono (by simp; omega))
 clear hb3 c0 c1 ca HK
 have HK := Lib.hid (And.intro k1 hb'); clear k1 hb'
 go_wp2_with fail
 exact bodyPost_ret (results_tmp_row rfl _ _ (w.heap.size + 1) 219 _ _ rfl (Blk.set3 HK.out.1 _ _ _) Tryz.underlying219 rfl infoRs) rfl ⟨rfl, below_set3 HK.out.2 (by omega) _ _ _⟩
set_option maxRecDepth 100000 in
set_option maxHeartbeats 400000 in
theorem rrow_any (t : List UInt8) (p b : Int) (p2 x : Nat) (w : World)
  (H : Hid (∀ w, Calls Tryz.prog 135 #[.agg #[.string (bs t), .int .i64 p, .int .i64 b], .int .i64 2] w (RetNS w x t p2 0)))
  (hx : x < 65536) (h : p2 + x ≤ t.length) (hl : t.length ≤ 9223372036854775807) :
  Calls Tryz.prog 136 #[.agg #[.string (bs t), .int .i64 p, .int .i64 b]] w (RetTS w ((t.drop p2).take x) t ((p2 : Int) + (x : Int)) 0) := by
 go_enter Tryz.func136, Tryz.ntmps136
 go_wp2_with fail
 refine (H.out _).mono ?_; rintro e w1 ⟨rfl, hb1⟩
 obtain ⟨k0, k1, hb', hz⟩ := two_boxes hb1
 clear hb1
 have c0 := Blk.c3 k0
 have c1 := Blk.c3 k1
 have ca := @Blk.c3a _ _ _ _ _ _ k0
 have HK := Lib.hid (And.intro k0 (And.intro k1 hb')); clear k0 k1 hb'
 go_wp2_with fail
 go_region
 go_wp2_with fail
 have kk : Blk w1 (w.heap.size + 1) 219 _ := HK.out.2.1
 refine bodyPost_ret (results_tmp_row rfl _ _ (w.heap.size + 1) 219 _ _ rfl ((Blk.set3 kk (.string (bs t)) (.int .i64 ((p2 : Int) + (x : Int))) (.int .i64 0)).alloc _).drew Tryz.underlying219 rfl infoRs) rfl ⟨?_, ?_⟩
 ·have e : (t.take ((p2 : Int) + (x : Int)).toNat).drop (p2 : Int).toNat = (t.drop p2).take x := by
   rw [← Int.natCast_add, Int.toNat_natCast, Int.toNat_natCast, List.drop_take, Nat.add_sub_cancel_left]
  first | rfl | (simp [List.drop_take] <;> done) | (rw [← e]; rfl)
 ·exact ((below_set3 HK.out.2.2 (g := w.heap.size + 1) (by omega) _ _ _).alloc (by simp; omega) _).drew
theorem Quill.Sc.num_ok (s : Quill.Sc) (h : (s.num 2).2.bad = 0) :
  ∃ q : Nat, (s.num 2).2.pos = (q : Int) ∧ q ≤ s.text.length ∧ (s.num 2).1 < 65536 := by
 have ht := Quill.tell_lt ((s.text.drop s.pos.toNat).take (2 : Int).toNat)
 have hl : ((s.text.drop s.pos.toNat).take (2 : Int).toNat).length ≤ 2 := by rw [List.length_take]; exact Nat.min_le_left _ _
 have hp : 256 ^ ((s.text.drop s.pos.toNat).take (2 : Int).toNat).length ≤ 256 ^ 2 := Nat.pow_le_pow_right (by omega) hl
 have hlt := Nat.lt_of_lt_of_le ht hp
 unfold Quill.Sc.num at h ⊢
 by_cases hb : s.bad ≠ 0
 ·rw [if_pos hb] at h; exact absurd h hb
 ·rw [if_neg hb] at h ⊢
  by_cases h2 : s.stands = false ∨ (2 : Int) < 1 ∨ 8 < (2 : Int)
  ·rw [if_pos h2] at h; simp [Quill.Sc.fails] at h
  ·rw [if_neg h2] at h ⊢
   by_cases h3 : (s.text.length : Int) - s.pos < 2
   ·rw [if_pos h3] at h; simp [Quill.Sc.fails] at h
   ·rw [if_neg h3]
    have hst : 0 ≤ s.pos ∧ s.pos ≤ (s.text.length : Int) := by
     have : ¬ s.stands = false := fun h => h2 (.inl h)
     simpa [Quill.Sc.stands] using this
    refine ⟨(s.pos + 2).toNat, ?_, ?_, ?_⟩
    ·simp only; omega
    ·omega
    ·exact hlt
theorem srow (s : Quill.Sc) (w : World) (hl : s.text.length ≤ 70368744177664) :
  Calls Tryz.prog 127 #[.agg #[.string (bs s.text), .int .i64 s.pos, .int .i64 s.bad]] w (RetTS w s.row.1 s.text s.row.2.pos s.row.2.bad) := by
 have H : Hid (∀ w, Calls Tryz.prog 126 #[.agg #[.string (bs s.text), .int .i64 s.pos, .int .i64 s.bad], .int .i64 2] w (RetNS w (s.num 2).1 s.text (s.num 2).2.pos (s.num 2).2.bad)) :=
  Lib.hid fun w => snum s 2 w hl
 by_cases hb : (s.num 2).2.bad = 0
 ·obtain ⟨q, hq, hq2, hx⟩ := s.num_ok hb
  rw [hb, hq] at H
  by_cases h3 : (s.text.length : Int) - (q : Int) < ((s.num 2).1 : Int)
  ·have hr : s.row = ([], s.fails 3) := by unfold Quill.Sc.row; rw [if_neg (by simpa using hb), hq, if_pos h3]
   rw [hr]
   exact srow_short s.text s.pos s.bad q (s.num 2).1 w H (by omega) (by omega) hx h3 (by omega)
  ·have hr : s.row = ((s.text.drop q).take (s.num 2).1, ⟨s.text, (q : Int) + ((s.num 2).1 : Int), 0⟩) := by
    unfold Quill.Sc.row; rw [if_neg (by simpa using hb), hq, if_neg h3, Int.toNat_natCast]
   rw [hr]
   exact srow_any s.text s.pos s.bad q (s.num 2).1 w H hx (by omega) (by omega)
 ·have hr : s.row = ([], (s.num 2).2) := by unfold Quill.Sc.row; rw [if_pos hb]
  rw [hr]
  exact srow_bad s.text s.pos s.bad _ _ _ w H (by simpa using hb)
set_option maxHeartbeats 400000 in
theorem sfin (s : Quill.Sc) (w : World) (hl : s.text.length ≤ 9223372036854775807) :
  Calls Tryz.prog 128 #[.agg #[.string (bs s.text), .int .i64 s.pos, .int .i64 s.bad]] w fun e w' => e = .returned (.int .i64 s.fin) ∧ Below w.heap.size w w' := by
 obtain ⟨t, p, b⟩ := s
 simp only at hl
 dsimp only
 by_cases hb : b = 0
 ·subst hb
  by_cases hst : 0 ≤ p ∧ p ≤ (t.length : Int)
  ·by_cases hp : p < (t.length : Int)
   ·have hp2 : 0 < (t.length : Int) - p := by omega
    have hp3 : (p != (t.length : Int)) = true := by simp; omega
    rw [show Quill.Sc.fin ⟨t, p, 0⟩ = 4 by simp [Quill.Sc.fin, Quill.Sc.stands, hst.1, hst.2, hp]]
    go_enter Tryz.func128, Tryz.ntmps128
    go_wp2_with fail
    refine (stands_yes _ _ _ _ hst.1 hst.2).mono ?_; rintro e w1 ⟨rfl, hb1⟩
    obtain ⟨k0, hb', hz⟩ := one_box hb1
    clear hb1
    have c0 := Blk.c3 k0
    have HK := Lib.hid (And.intro k0 hb'); clear k0 hb'
    go_wp2_with fail
    refine (left_any _ _ _ _ hst.1 hst.2 hl).mono ?_; rintro e w2 ⟨rfl, hb2⟩
    have hb' := HK.out.2.trans (hb2.mono (by omega))
    clear c0 hb2 HK
    have HK := Lib.hid (And.intro True.intro hb'); clear hb'
    go_wp2_with fail
    go_ret
    exact ⟨rfl, HK.out.2⟩
   ·obtain rfl : p = (t.length : Int) := by omega
    rw [show Quill.Sc.fin ⟨t, (t.length : Int), 0⟩ = 0 by simp [Quill.Sc.fin, Quill.Sc.stands]]
    clear hp
    go_enter Tryz.func128, Tryz.ntmps128
    go_wp2_with fail
    refine (stands_yes _ _ _ _ hst.1 hst.2).mono ?_; rintro e w1 ⟨rfl, hb1⟩
    obtain ⟨k0, hb', hz⟩ := one_box hb1
    clear hb1
    have c0 := Blk.c3 k0
    have HK := Lib.hid (And.intro k0 hb'); clear k0 hb'
    go_wp2_with fail
    refine (left_any _ _ _ _ hst.1 hst.2 hl).mono ?_; rintro e w2 ⟨rfl, hb2⟩
    have hb' := HK.out.2.trans (hb2.mono (by omega))
    clear c0 hb2 HK
    have HK := Lib.hid (And.intro True.intro hb'); clear hb'
    go_wp2_with fail
    go_ret
    exact ⟨rfl, HK.out.2⟩
  ·rw [show Quill.Sc.fin ⟨t, p, 0⟩ = 2 by simp only [Quill.Sc.fin, Quill.Sc.stands]; rw [if_neg (by simp)]; exact if_pos (by simpa using hst)]
   have HS := Lib.hid hst; clear hst
   go_enter Tryz.func128, Tryz.ntmps128
   go_wp2_with fail
   refine (stands_no _ _ _ _ (by have := HS.out; omega) hl).mono ?_; rintro e w1 ⟨rfl, hb1⟩
   obtain ⟨k0, hb', hz⟩ := one_box hb1
   clear hb1
   have HK := Lib.hid hb'; clear k0 hb'
   go_wp2_with fail
   go_ret
   exact ⟨rfl, HK.out⟩
 ·have hb2 : (b != 0) = true := by simpa using hb
  rw [show Quill.Sc.fin ⟨t, p, b⟩ = b by simp only [Quill.Sc.fin]; exact if_pos hb]
  clear hb
  go_enter Tryz.func128, Tryz.ntmps128
  go_wp2_with fail
  go_ret
  exact ⟨rfl, (Below.refl _ _).alloc (Nat.le_refl _) _⟩
theorem rrow (s : Quill.Sc) (w : World) (hl : s.text.length ≤ 70368744177664) :
  Calls Tryz.prog 136 #[.agg #[.string (bs s.text), .int .i64 s.pos, .int .i64 s.bad]] w (RetTS w s.row.1 s.text s.row.2.pos s.row.2.bad) := by
 have H : Hid (∀ w, Calls Tryz.prog 135 #[.agg #[.string (bs s.text), .int .i64 s.pos, .int .i64 s.bad], .int .i64 2] w (RetNS w (s.num 2).1 s.text (s.num 2).2.pos (s.num 2).2.bad)) :=
  Lib.hid fun w => rnum s 2 w hl
 by_cases hb : (s.num 2).2.bad = 0
 ·obtain ⟨q, hq, hq2, hx⟩ := s.num_ok hb
  rw [hb, hq] at H
  by_cases h3 : (s.text.length : Int) - (q : Int) < ((s.num 2).1 : Int)
  ·have hr : s.row = ([], s.fails 3) := by unfold Quill.Sc.row; rw [if_neg (by simpa using hb), hq, if_pos h3]
   rw [hr]
   exact rrow_short s.text s.pos s.bad q (s.num 2).1 w H (by omega) (by omega) hx h3 (by omega)
  ·have hr : s.row = ((s.text.drop q).take (s.num 2).1, ⟨s.text, (q : Int) + ((s.num 2).1 : Int), 0⟩) := by
    unfold Quill.Sc.row; rw [if_neg (by simpa using hb), hq, if_neg h3, Int.toNat_natCast]
   rw [hr]
   exact rrow_any s.text s.pos s.bad q (s.num 2).1 w H hx (by omega) (by omega)
 ·have hr : s.row = ([], (s.num 2).2) := by unfold Quill.Sc.row; rw [if_pos hb]
  rw [hr]
  exact rrow_bad s.text s.pos s.bad _ _ _ w H (by simpa using hb)
set_option maxHeartbeats 400000 in
theorem rfin (s : Quill.Sc) (w : World) (hl : s.text.length ≤ 9223372036854775807) :
  Calls Tryz.prog 137 #[.agg #[.string (bs s.text), .int .i64 s.pos, .int .i64 s.bad]] w fun e w' => e = .returned (.int .i64 s.fin) ∧ Below w.heap.size w w' := by
 obtain ⟨t, p, b⟩ := s
 simp only at hl
 dsimp only
 by_cases hb : b = 0
 ·subst hb
  by_cases hst : 0 ≤ p ∧ p ≤ (t.length : Int)
  ·by_cases hp : p < (t.length : Int)
   ·have hp2 : 0 < (t.length : Int) - p := by omega
    have hp3 : (p != (t.length : Int)) = true := by simp; omega
    rw [show Quill.Sc.fin ⟨t, p, 0⟩ = 4 by simp [Quill.Sc.fin, Quill.Sc.stands, hst.1, hst.2, hp]]
    go_enter Tryz.func137, Tryz.ntmps137
    go_wp2_with fail
    refine (rstands_yes _ _ _ _ hst.1 hst.2).mono ?_; rintro e w1 ⟨rfl, hb1⟩
    obtain ⟨k0, hb', hz⟩ := one_box hb1
    clear hb1
    have c0 := Blk.c3 k0
    have HK := Lib.hid (And.intro k0 hb'); clear k0 hb'
    go_wp2_with fail
    go_ret
    exact ⟨rfl, HK.out.2⟩
   ·obtain rfl : p = (t.length : Int) := by omega
    rw [show Quill.Sc.fin ⟨t, (t.length : Int), 0⟩ = 0 by simp [Quill.Sc.fin, Quill.Sc.stands]]
    clear hp
    go_enter Tryz.func137, Tryz.ntmps137
    go_wp2_with fail
    refine (rstands_yes _ _ _ _ hst.1 hst.2).mono ?_; rintro e w1 ⟨rfl, hb1⟩
    obtain ⟨k0, hb', hz⟩ := one_box hb1
    clear hb1
    have c0 := Blk.c3 k0
    have HK := Lib.hid (And.intro k0 hb'); clear k0 hb'
    go_wp2_with fail
    go_ret
    exact ⟨rfl, HK.out.2⟩
  ·rw [show Quill.Sc.fin ⟨t, p, 0⟩ = 2 by simp only [Quill.Sc.fin, Quill.Sc.stands]; rw [if_neg (by simp)]; exact if_pos (by simpa using hst)]
   have HS := Lib.hid hst; clear hst
   go_enter Tryz.func137, Tryz.ntmps137
   go_wp2_with fail
   refine (rstands_no _ _ _ _ (by have := HS.out; omega) hl).mono ?_; rintro e w1 ⟨rfl, hb1⟩
   obtain ⟨k0, hb', hz⟩ := one_box hb1
   clear hb1
   have HK := Lib.hid hb'; clear k0 hb'
   go_wp2_with fail
   go_ret
   exact ⟨rfl, HK.out⟩
 ·have hb2 : (b != 0) = true := by simpa using hb
  rw [show Quill.Sc.fin ⟨t, p, b⟩ = b by simp only [Quill.Sc.fin]; exact if_pos hb]
  clear hb
  go_enter Tryz.func137, Tryz.ntmps137
  go_wp2_with fail
  go_ret
  exact ⟨rfl, (Below.refl _ _).alloc (Nat.le_refl _) _⟩
end Go.Proofs.YtbaedepmogkkeaaGreat
