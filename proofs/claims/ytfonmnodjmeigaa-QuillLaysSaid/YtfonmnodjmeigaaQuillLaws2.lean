/- The law of quill on laying, walked. No conditions. -/
import Derived.Test.YtfonmnodjmeigaaQuillLaws1
import Derived.Test.YtfonmnodjmeigaaArgs
namespace Go.Proofs.Ytfonmnodjmeigaa
set_option linter.unusedVariables false
open Go.RowKit Go.ChangeShapes Go.WideShapes

def Quill.laid (l : List UInt8) (size : Int) (x : Nat) : List UInt8 := if 1 ≤ size ∧ size ≤ 8 then l ++ Quill.numB size.toNat x else l
theorem num_laid (A : Option Addr) (n c x : Nat) (size : Int) (l : List UInt8) (w : World) (base : Nat) (hr : RdB w A n l) (hn : n ≤ 35184372088832) (hx : x < 18446744073709551616) (hb : base ≤ w.heap.size) :
    Calls Try.prog 26 #[.slice A n c, .int .i64 size, .int .u64 x] w (RetB base w (Quill.laid l size x)) := by
  unfold Quill.laid
  by_cases h : 1 ≤ size ∧ size ≤ 8
  · rw [if_pos h]
    obtain ⟨z, rfl⟩ := Int.eq_ofNat_of_zero_le (show 0 ≤ size by omega)
    exact num_yes A n c z x l w base hr (by omega) (by omega) hn hx hb
  · rw [if_neg h]; exact num_no A n c x size l w base hr (by omega) hn hb
theorem refnum_laid (A : Option Addr) (n c x : Nat) (size : Int) (l : List UInt8) (w : World) (base : Nat) (hr : RdB w A n l) (hn : n ≤ 35184372088832) (hx : x < 18446744073709551616) (hb : base ≤ w.heap.size) :
    Calls Try.prog 32 #[.slice A n c, .int .i64 size, .int .u64 x] w (RetB base w (Quill.laid l size x)) := by
  unfold Quill.laid
  by_cases h : 1 ≤ size ∧ size ≤ 8
  · rw [if_pos h]
    obtain ⟨z, rfl⟩ := Int.eq_ofNat_of_zero_le (show 0 ≤ size by omega)
    exact refnum_any A n c z x l w base hr (by omega) (by omega) hn hx hb
  · rw [if_neg h]; exact refnum_no A n c x size l w base hr (by omega) hn hb

/-- '[]byte' to 'string', where the bytes are read. -/
theorem run_str {w : World} {A : Option Addr} {n : Nat} {l : List UInt8} (h : RdB w A n l) (c : Nat) :
    (convert 52 9 (.slice A n c)).run Try.prog w = .ok (.string (bs l)) w := run_string_B 52 9 h Try.underlying52 Try.underlying9 c

/-- Over, told by one bit. -/
theorem over_any (A : Option Addr) (n c : Nat) (L : List (List UInt8)) (w : World) (hr : RdT w A n L) (hn : n ≤ 9223372036854775807) (hm : ∀ s ∈ L, s.length ≤ 9223372036854775807) :
    Calls Try.prog 28 #[.slice A n c] w fun e w' => e = .returned (.int .i64 (if n ≤ 40 ∧ ∀ s ∈ L, s.length ≤ 200 then 0 else 1)) ∧ w = w' := by
  by_cases h : n ≤ 40 ∧ ∀ s ∈ L, s.length ≤ 200
  · rw [if_pos h]; exact over_few A n c L w hr h.1 h.2
  · rw [if_neg h]
    by_cases h1 : n ≤ 40
    · refine over_long A n c L w hr h1 hm ?_
      apply Classical.byContradiction
      intro h2
      refine h ⟨h1, fun s hs => ?_⟩
      rcases Nat.lt_or_ge 200 s.length with h3 | h3
      · exact absurd ⟨s, hs, h3⟩ h2
      · exact h3
    · exact over_many A n c w (by omega) hn

def Five (w W : World) (t : TypeId) (a b : Value) (A0 A1 A2 A3 A4 : Option Addr) (n0 n1 n2 n3 n4 : Nat) (l0 l1 l3 : List UInt8) : Prop :=
  Blk W w.heap.size t #[a, b] ∧ RdB W A0 n0 l0 ∧ RdB W A1 n1 l1 ∧ RdB W A2 n2 l1 ∧ RdB W A3 n3 l3 ∧ RdB W A4 n4 l3 ∧ Below w.heap.size w W ∧ w.heap.size < W.heap.size
theorem Five.below {w W w1 : World} {t : TypeId} {a b : Value} {A0 A1 A2 A3 A4 : Option Addr} {n0 n1 n2 n3 n4 : Nat} {l0 l1 l3 : List UInt8}
    (h : Five w W t a b A0 A1 A2 A3 A4 n0 n1 n2 n3 n4 l0 l1 l3) (hb : Below W.heap.size W w1) : Five w w1 t a b A0 A1 A2 A3 A4 n0 n1 n2 n3 n4 l0 l1 l3 :=
  ⟨Blk.below h.1 hb h.2.2.2.2.2.2.2, h.2.1.below hb, h.2.2.1.below hb, h.2.2.2.1.below hb, h.2.2.2.2.1.below hb, h.2.2.2.2.2.1.below hb, below_chain h.2.2.2.2.2.2.1 hb, by have := hb.size; have := h.2.2.2.2.2.2.2; omega⟩

theorem Five.drew {w W : World} {t : TypeId} {a b : Value} {A0 A1 A2 A3 A4 : Option Addr} {n0 n1 n2 n3 n4 : Nat} {l0 l1 l3 : List UInt8}
    (h : Five w W t a b A0 A1 A2 A3 A4 n0 n1 n2 n3 n4 l0 l1 l3) : Five w W.drew t a b A0 A1 A2 A3 A4 n0 n1 n2 n3 n4 l0 l1 l3 := h.below (Below.refl _ _).drew
/-- What the region reads, and the five themselves. -/
def Look (w W : World) (t : TypeId) (a b : Value) (A0 A1 A2 A3 A4 : Option Addr) (n0 n1 n2 n3 n4 k1 k2 k3 k4 : Nat) (l0 l1 l3 : List UInt8) : Prop :=
  W.cell? ⟨w.heap.size, 1, none⟩ = some b ∧ (convert 52 9 (.slice A1 n1 k1)).run Try.prog W = .ok (.string (bs l1)) W ∧ (convert 52 9 (.slice A2 n2 k2)).run Try.prog W = .ok (.string (bs l1)) W ∧
    (convert 52 9 (.slice A3 n3 k3)).run Try.prog W = .ok (.string (bs l3)) W ∧ (convert 52 9 (.slice A4 n4 k4)).run Try.prog W = .ok (.string (bs l3)) W ∧ Hid (Five w W t a b A0 A1 A2 A3 A4 n0 n1 n2 n3 n4 l0 l1 l3)
theorem Five.look {w W : World} {t : TypeId} {a b : Value} {A0 A1 A2 A3 A4 : Option Addr} {n0 n1 n2 n3 n4 : Nat} {l0 l1 l3 : List UInt8}
    (h : Five w W t a b A0 A1 A2 A3 A4 n0 n1 n2 n3 n4 l0 l1 l3) (k1 k2 k3 k4 : Nat) : Look w W t a b A0 A1 A2 A3 A4 n0 n1 n2 n3 n4 k1 k2 k3 k4 l0 l1 l3 :=
  ⟨h.1.c2.1.2, run_str h.2.2.1 _, run_str h.2.2.2.1 _, run_str h.2.2.2.2.1 _, run_str h.2.2.2.2.2.1 _, Lib.hid h⟩

set_option maxRecDepth 100000 in
set_option maxHeartbeats 4000000 in
theorem quillLays_walk (A : Option Addr) (n c : Nat) (cs : Array Value) (T : Option Addr) (m d : Nat) (w : World)
    (hs : SliceOk w [.int .u8] A n ∧ n ≤ c ∧ c ≤ 9223372036854775807 ∧ (A = none → c = 0)) (hcs : CellsOk [.int .u64, .int .u64] cs.toList)
    (ht : SliceOk w [.str] T m ∧ m ≤ d ∧ d ≤ 9223372036854775807 ∧ (T = none → d = 0)) :
    Calls Try.prog 6 #[.slice A n c, .agg cs, .slice T m d] w fun e w' => e = .returned (.bool true) ∧ Below w.heap.size w w' := by
  obtain ⟨v0, r0, e0, ⟨k0, rfl, hk0⟩, hr0⟩ := hcs.cons_
  obtain ⟨v1, r1, rfl, ⟨k1, rfl, hk1⟩, hr1⟩ := hr0.cons_
  obtain rfl := hr1.empty_
  obtain rfl : cs = #[.int .u64 k0, .int .u64 k1] := by cases cs; simp_all
  have b0 := bounds_u64 hk0
  have b1 := bounds_u64 hk1
  obtain ⟨l, hl⟩ := RdB.of_slice hs.1
  obtain ⟨L, hL, hLs⟩ := RdT.of_slice ht.1
  have hn := hs.2
  have hm := ht.2
  clear hcs hr0 hr1 e0 hk0 hk1 hs ht
  obtain ⟨x0, rfl⟩ := Int.eq_ofNat_of_zero_le b0.1
  obtain ⟨x1, rfl⟩ := Int.eq_ofNat_of_zero_le b1.1
  have HL := Lib.hid hl; clear hl
  have HT := Lib.hid (And.intro hL hLs); clear hL hLs
  by_cases h2 : 200 < n
  · have h3 : (200 : Int) < (n : Int) := by omega
    go_enter Try.func6, Try.ntmps6
    go_wp2_with fail
    refine (qawake_any _).mono ?_; rintro e w1 ⟨rfl, hb1⟩
    obtain ⟨_, hb, _⟩ := one_box hb1
    go_wp2_with fail
    go_ret
    exact ⟨rfl, hb⟩
  · have h3 : (n : Int) ≤ 200 := by omega
    by_cases ho : m ≤ 40 ∧ ∀ s ∈ L, s.length ≤ 200
    · have HO := Lib.hid ho; clear ho
      obtain ⟨z, hz, hz2⟩ : ∃ z : Nat, (x0 : Int) % 12 = (z : Int) ∧ z < 12 := ⟨x0 % 12, by omega, Nat.mod_lt _ (by omega)⟩
      have hrow : l.length ≤ 200 := by rw [HL.out.1]; omega
      have HW := Lib.hid hrow; clear hrow
      have hc := run_str HL.out c
      have hca : ∀ o, (convert 52 9 (.slice A n c)).run Try.prog (w.alloc o) = .ok (.string (bs l)) (w.alloc o) := fun o => run_str (HL.out.alloc o) c
      go_enter Try.func6, Try.ntmps6
      go_wp2_with fail
      refine (over_few _ _ _ L _ (HT.out.1.alloc _) HO.out.1 HO.out.2).mono ?_; rintro e w1 ⟨rfl, rfl⟩
      go_wp2_with fail
      refine (row_any _ _ _ l l _ _ (HL.out.alloc _) (by omega) (by have := HW.out; omega) (Nat.le_refl _)).mono ?_; rintro e w1 ⟨A1, n1, k1, rfl, h1, hb1⟩
      clear hc hca
      obtain ⟨q0, hb, hz1⟩ := one_box hb1
      have hl1 := HL.out.below hb
      have ht1 := HT.out.1.below hb
      have hc := run_str hl1 c
      have HK := Lib.hid (And.intro hl1 (And.intro h1.rd (And.intro ht1 (And.intro (show Blk w1 _ _ _ from q0) hb)))); clear hl1 h1 ht1 q0 hb hb1
      go_wp2_with fail
      refine (refrow_any _ _ _ l l _ _ HK.out.1 (by omega) (by have := HW.out; omega) (Nat.le_refl _)).mono ?_; rintro e w2 ⟨A2, n2, k2, rfl, h2, hb2⟩
      have hz2' : w.heap.size < w2.heap.size := by have := hb2.size; omega
      have HK2 := Lib.hid (And.intro (HK.out.1.below hb2) (And.intro (HK.out.2.1.below hb2) (And.intro (HK.out.2.2.1.below hb2) (And.intro (Blk.below HK.out.2.2.2.1 hb2 hz1) (And.intro (below_chain HK.out.2.2.2.2 hb2) h2.rd)))))
      clear HK hc h2 hb2
      go_wp2_with fail
      refine (rows_few _ _ _ L _ HK2.out.2.2.1 HO.out.1 HO.out.2).mono ?_; rintro e w3 ⟨A3, n3, k3, rfl, h3', hb3⟩
      have HK3 := Lib.hid (And.intro (HK2.out.1.below hb3) (And.intro (HK2.out.2.1.below hb3) (And.intro (HK2.out.2.2.1.below hb3) (And.intro (Blk.below HK2.out.2.2.2.1 hb3 hz2') (And.intro (below_chain HK2.out.2.2.2.2.1 hb3) (And.intro (HK2.out.2.2.2.2.2.below hb3) h3'.rd))))))
      have hz3' : w.heap.size < w3.heap.size := by have := hb3.size; omega
      clear HK2 h3' hb3
      go_wp2_with fail
      refine (refrows_few _ _ _ L _ HK3.out.2.2.1 HO.out.1 HO.out.2).mono ?_; rintro e w4 ⟨A4, n4, k4, rfl, h4', hb4⟩
      have hz4' : w.heap.size < w4.heap.size := by have := hb4.size; omega
      have hF : Five w w4 59 (.int .u64 (x0 : Int)) (.int .u64 (x1 : Int)) A A1 A2 A3 A4 n n1 n2 n3 n4 l (l ++ Quill.rowB l) (Quill.rowsB L) :=
        ⟨Blk.below HK3.out.2.2.2.1 hb4 hz3', HK3.out.1.below hb4, HK3.out.2.1.below hb4, HK3.out.2.2.2.2.2.1.below hb4, HK3.out.2.2.2.2.2.2.below hb4, h4'.rd, below_chain HK3.out.2.2.2.2.1 hb4, hz4'⟩
      clear HK3 h4' hb4 HT HL
      generalize l ++ Quill.rowB l = lr at hF
      generalize Quill.rowsB L = lR at hF
      have hx1 : x1 < 18446744073709551616 := by omega
      obtain ⟨ln, hln⟩ : ∃ ln, ln = Quill.laid l ((z : Int) - 1) x1 := ⟨_, rfl⟩
      have hN : ∀ (W : World), RdB W A n l → Calls Try.prog 26 #[.slice A n c, .int .i64 ((z : Int) - 1), .int .u64 (x1 : Int)] W (RetB W.heap.size W ln) := fun W hr => by
        rw [hln]; exact num_laid A n c x1 _ l W _ hr (by omega) hx1 (Nat.le_refl _)
      have hR : ∀ (W : World), RdB W A n l → Calls Try.prog 32 #[.slice A n c, .int .i64 ((z : Int) - 1), .int .u64 (x1 : Int)] W (RetB W.heap.size W ln) := fun W hr => by
        rw [hln]; exact refnum_laid A n c x1 _ l W _ hr (by omega) hx1 (Nat.le_refl _)
      have HC := Lib.hid (And.intro hN hR); clear hN hR hln
      have kk := hF.look k1 k2 k3 k4
      clear hF
      go_wp2_with fail
      have hd : Five w w4.drew 59 (.int .u64 (x0 : Int)) (.int .u64 (x1 : Int)) A A1 A2 A3 A4 n n1 n2 n3 n4 l lr lR := kk.2.2.2.2.2.out.drew
      have kd := hd.look k1 k2 k3 k4
      clear hd
      unfold Look at kk kd
      go_region_held (fun W => W.cell? ⟨w.heap.size, 1, none⟩ = some (.int .u64 (x1 : Int)) ∧ (convert 52 9 (.slice A1 n1 k1)).run Try.prog W = .ok (.string (bs lr)) W ∧ (convert 52 9 (.slice A2 n2 k2)).run Try.prog W = .ok (.string (bs lr)) W ∧
          (convert 52 9 (.slice A3 n3 k3)).run Try.prog W = .ok (.string (bs lR)) W ∧ (convert 52 9 (.slice A4 n4 k4)).run Try.prog W = .ok (.string (bs lR)) W ∧ Hid (Five w W 59 (.int .u64 (x0 : Int)) (.int .u64 (x1 : Int)) A A1 A2 A3 A4 n n1 n2 n3 n4 l lr lR))
        ((first | assumption))
        (first
          | (go_at_call 26; have kf := (by assumption : _ ∧ _ ∧ _ ∧ _ ∧ _ ∧ Hid _).2.2.2.2.2.out; refine (HC.out.1 _ kf.2.1).mono ?_; rintro e W1 ⟨AN, nN, kN, rfl, hN, hb1⟩; have kk := (kf.below hb1).look k1 k2 k3 k4; unfold Look at kk; have eN := run_str hN.rd kN; have HN := Lib.hid hN.rd; (try have eR := run_str (HR.out.below hb1) kR); clear hN hb1 kf)
          | (go_at_call 32; have kf := (by assumption : _ ∧ _ ∧ _ ∧ _ ∧ _ ∧ Hid _).2.2.2.2.2.out; refine (HC.out.2 _ kf.2.1).mono ?_; rintro e W1 ⟨AR, nR, kR, rfl, hR, hb1⟩; have kk := (kf.below hb1).look k1 k2 k3 k4; unfold Look at kk; have eR := run_str hR.rd kR; have HR := Lib.hid hR.rd; (try have eN := run_str (HN.out.below hb1) kN); clear hR hb1 kf)
          | (go_at_call 12; have kf := (by assumption : _ ∧ _ ∧ _ ∧ _ ∧ _ ∧ Hid _).2.2.2.2.2.out; refine (qawake_any _).mono ?_; rintro e W1 ⟨rfl, hb1⟩; have kk := (kf.below hb1).look k1 k2 k3 k4; unfold Look at kk; clear hb1 kf))
      all_goals
        have HF := Lib.hid kk
        clear kk
        go_wp2_with fail
        go_ret
        exact ⟨rfl, HF.out.2.2.2.2.2.out.2.2.2.2.2.2.1⟩
    · have ho' : ∀ w, RdT w T m L → Calls Try.prog 28 #[.slice T m d] w fun e w' => e = .returned (.int .i64 1) ∧ w = w' := fun w hr => by
        have h := over_any T m d L w hr (by omega) HT.out.2
        rwa [if_neg ho] at h
      have HO := Lib.hid ho'; clear ho ho'
      go_enter Try.func6, Try.ntmps6
      go_wp2_with fail
      refine (HO.out _ (HT.out.1.alloc _)).mono ?_; rintro e w1 ⟨rfl, rfl⟩
      go_wp2_with fail
      refine (qawake_any _).mono ?_; rintro e w1 ⟨rfl, hb1⟩
      obtain ⟨_, hb, _⟩ := one_box hb1
      go_wp2_with fail
      go_ret
      exact ⟨rfl, hb⟩
end Go.Proofs.Ytfonmnodjmeigaa
