/- quill: Num and Row, walked; and the reference's. No conditions but that lengths stay far below what memory holds. -/
import Derived.Test.YtbaedepmogkkeaaGreatQuillWalks1
namespace Go.Proofs.YtbaedepmogkkeaaGreat
set_option linter.unusedSimpArgs false
set_option linter.unusedVariables false
set_option maxRecDepth 100000
open Go.RowKit

set_option maxHeartbeats 400000 in
theorem num_yes (A : Option Addr) (n c size x : Nat) (l : List UInt8) (w : World) (base : Nat) (hr : RdB w A n l) (h1 : 1 ≤ size) (h2 : size ≤ 8) (hn : n ≤ 35184372088832) (hx : x < 18446744073709551616) (hb : base ≤ w.heap.size) :
    Calls Tryz.prog 124 #[.slice A n c, .int .i64 size, .int .u64 x] w (RetB base w (l ++ Quill.numB size x)) := by
  have HR := Lib.hid hr; clear hr
  go_enter Tryz.func124, Tryz.ntmps124
  go_wp2_with fail
  refine (sized_yes _ _ (by omega) (by omega)).mono ?_; rintro e w1 ⟨rfl, rfl⟩
  go_wp2_with fail
  refine (grown_any A n c size l _ base HR.out (by omega) (by omega) hb).mono ?_; rintro e w1 ⟨A1, n1, c1, rfl, ho1, hb1⟩
  have hz : base ≤ w1.heap.size := Nat.le_trans hb hb1.size
  have hn1 : n1 = n := by rw [← ho1.1, HR.out.1]
  subst hn1
  have HO := Lib.hid ho1; clear ho1
  go_wp2_with fail
  refine (lay_any A1 n1 c1 size x l _ base HO.out h2 (by omega) hx hz).mono ?_; rintro e w2 ⟨A2, n2, c2, rfl, ho2, hb2⟩
  have HO2 := Lib.hid ho2; clear ho2
  go_wp2_with fail
  go_ret
  exact ⟨_, _, _, rfl, HO2.out, hb1.trans hb2⟩

set_option maxHeartbeats 400000 in
theorem num_no (A : Option Addr) (n c x : Nat) (size : Int) (l : List UInt8) (w : World) (base : Nat) (hr : RdB w A n l) (h1 : size < 1 ∨ 8 < size) (hn : n ≤ 35184372088832) (hb : base ≤ w.heap.size) :
    Calls Tryz.prog 124 #[.slice A n c, .int .i64 size, .int .u64 x] w (RetB base w l) := by
  have HR := Lib.hid hr; clear hr
  have H1 := Lib.hid h1; clear h1
  go_enter Tryz.func124, Tryz.ntmps124
  go_wp2_with fail
  refine (sized_no _ _ H1.out).mono ?_; rintro e w1 ⟨rfl, rfl⟩
  go_wp2_with fail
  refine (grown_any A n c 0 l _ base HR.out (by omega) (by omega) hb).mono ?_; rintro e w1 ⟨A1, n1, c1, rfl, ho1, hb1⟩
  have HO := Lib.hid ho1; clear ho1
  go_wp2_with fail
  go_ret
  exact ⟨_, _, _, rfl, HO.out, hb1⟩

/-- A slice of bytes of the call's own, and an error's number. -/
def RetBE (base : Nat) (w : World) (l : List UInt8) (n : Int) (e : Ending) (w' : World) : Prop :=
  ∃ A k c, e = .returned (.tuple #[.slice A k c, .int .i64 n]) ∧ OwnB w' base A k c l ∧ Below base w w'

set_option maxHeartbeats 400000 in
theorem row_long (A : Option Addr) (n c : Nat) (s : List UInt8) (w : World) (base : Nat) (h : 65535 < s.length) (hb : base ≤ w.heap.size) :
    Calls Tryz.prog 162 #[.slice A n c, .string (bs s)] w (RetBE base w [] 5) := by
  go_enter Tryz.func162, Tryz.ntmps162
  go_wp2_with fail
  go_ret2
  exact ⟨_, _, _, rfl, OwnB.nil_ _ _, Below.refl _ _⟩

set_option maxHeartbeats 400000 in
theorem row_any (A : Option Addr) (n c : Nat) (l s : List UInt8) (w : World) (base : Nat) (hr : RdB w A n l) (hn : n ≤ 17592186044416) (hs : s.length ≤ 65535) (hb : base ≤ w.heap.size) :
    Calls Tryz.prog 162 #[.slice A n c, .string (bs s)] w (RetBE base w (l ++ Quill.rowB s) 0) := by
  have HR := Lib.hid hr; clear hr
  go_enter Tryz.func162, Tryz.ntmps162
  go_wp2_with fail
  refine (grown_any A n c (2 + s.length) l _ base HR.out (by omega) (by omega) hb).mono ?_; rintro e w1 ⟨A1, n1, c1, rfl, ho1, hb1⟩
  have hz : base ≤ w1.heap.size := Nat.le_trans hb hb1.size
  have hn1 : n1 = n := by rw [← ho1.1, HR.out.1]
  subst hn1
  have HO := Lib.hid ho1; clear ho1
  go_wp2_with fail
  refine (lay_any A1 n1 c1 2 s.length l _ base HO.out (by omega) (by omega) (by omega) hz).mono ?_; rintro e w2 ⟨A2, n2, c2, rfl, ho2, hb2⟩
  have hz2 : base ≤ w2.heap.size := Nat.le_trans hz hb2.size
  have hn2 : n2 = n1 + 2 := by rw [← ho2.1, List.length_append, Quill.numB_length, HR.out.1]
  subst hn2
  have HO2 := Lib.hid ho2; clear ho2
  go_wp2_with (at_builtin; refine wpList_appS _ rfl _ _ rfl base rfl HO2.out rfl (by omega) hz2 ?_)
  intro A3 c3 w3 ho3 hg3
  go_wp2_with fail
  go_ret2
  have h := ho3.out
  rw [cat, List.append_assoc] at h
  exact ⟨_, _, _, rfl, h, (hb1.trans hb2).trans (grown_below HO2.out hg3 hz2)⟩

set_option maxHeartbeats 400000 in
theorem refnum_any (A : Option Addr) (n c size x : Nat) (l : List UInt8) (w : World) (base : Nat) (hr : RdB w A n l) (h1 : 1 ≤ size) (h2 : size ≤ 8) (hn : n ≤ 35184372088832) (hx : x < 18446744073709551616) (hb : base ≤ w.heap.size) :
    Calls Tryz.prog 131 #[.slice A n c, .int .i64 size, .int .u64 x] w (RetB base w (l ++ Quill.numB size x)) := by
  have HR := Lib.hid hr; clear hr
  go_enter Tryz.func131, Tryz.ntmps131
  go_wp2_with (at_builtin; refine wpList_appB _ rfl _ _ rfl base rfl (OwnB.empty w base hb) rfl (HR.out.alloc _) (by omega) (by simp; omega) ?_)
  intro A1 c1 w1 ho1 hg1
  have hb1 : Below base w w1 := ((Below.refl base w).alloc hb _).trans (grown_below (OwnB.empty w base hb) hg1 (by simp; omega))
  have hz1 : base ≤ w1.heap.size := Nat.le_trans hb hb1.size
  clear hg1
  have ho1' : OwnB w1 base A1 n c1 l := by have h := ho1.out; rw [cat, List.nil_append] at h; exact h
  have HO := Lib.hid ho1'; clear ho1 ho1'
  go_wp2
  go_loopw [7, 8, 9, 10] (fun v i u j wr => ∃ (k : Nat) (A' : Option Addr) (c' : Nat), k ≤ size ∧ i = .int .i64 ((size : Int) - 1 - k) ∧ v = .slice A' (n + k) c' ∧ OwnB wr base A' (n + k) c' (l ++ (List.range k).map (Quill.byteOf size x)) ∧ Below base w wr) (fun _ i _ _ _ => (intOf i + 1).toNat)
  case atStart => exact ⟨0, A1, c1, by omega, by go_num, by simp, by simpa using HO.out, hb1⟩
  case round =>
    clear HO hb1 hz1
    obtain ⟨k, A', c', hk, rfl, rfl, hown, hbel⟩ := hrel
    have HO := Lib.hid (And.intro hown hbel); clear hown hbel
    by_cases hlt : k < size
    · obtain ⟨t, ht, hT⟩ : ∃ t : Nat, (size : Int) - 1 - k = t ∧ Hid (t = size - 1 - k) := ⟨size - 1 - k, by omega, rfl⟩
      have htl : t ≤ 8 := by have := hT.out; omega
      go_wp2
      go_loop [9, 10] (fun u j => ∃ m : Nat, m ≤ t ∧ j = .int .i64 m ∧ u = .int .u64 ((x / 256 ^ m : Nat) : Int)) (fun _ j => t - (intOf j).toNat)
      case atStart => exact ⟨0, by omega, rfl, by simp⟩
      case round =>
        obtain ⟨m, hm, rfl, rfl⟩ := hrel
        have hxm : x / 256 ^ m < 18446744073709551616 := Nat.lt_of_le_of_lt (Nat.div_le_self _ _) hx
        have hxs : x / 256 ^ m / 256 = x / 256 ^ (m + 1) := by rw [Nat.div_div_eq_div_mul, Nat.pow_succ]
        obtain ⟨y, hy⟩ : ∃ y, x / 256 ^ m = y := ⟨_, rfl⟩
        rw [hy] at hxm hxs ⊢
        have HXS := Lib.hid hxs; clear hxs
        have HY := Lib.hid hy; clear hy
        by_cases hmt : m < t
        · go_wp2
          go_round
          case rel => exact ⟨m + 1, by omega, by go_num, val_of (by rw [← HXS.out]; rfl)⟩
          case measure => simp [intOf]; omega
        · obtain rfl : m = t := by omega
          obtain ⟨b, hbv, hB⟩ : ∃ b : UInt8, (y : Int) % 256 = (b.toNat : Int) ∧ Hid (b = Quill.byteOf size x k) := by
            refine ⟨Quill.byteOf size x k, ?_, rfl⟩
            rw [Quill.byteOf_toNat, ← hT.out, ← HY.out, Nat.pow_mul]; rfl
          have hbz : base ≤ wr.heap.size := Nat.le_trans hb HO.out.2.size
          go_wp2_with (at_builtin; refine wpList_appB _ rfl _ _ rfl base rfl (HO.out.1.alloc _) rfl (RdB.one wr b) (by omega) (by simp; omega) ?_)
          intro A2 c2 w2 hown2 hg2
          go_wp2_with fail
          go_roundw
          case rel =>
            refine ⟨k + 1, A2, c2, by omega, by rw [← ht]; go_num, rfl, ?_, HO.out.2.trans (((Below.refl base wr).alloc hbz _).trans (grown_below (HO.out.1.alloc _) hg2 (by simp; omega)))⟩
            have h := hown2.out
            rw [cat, hB.out, List.append_assoc, ← Quill.range_map_snoc] at h
            exact h
          case measure => simp [intOf]; omega
    · obtain rfl : k = size := by omega
      go_wp2
      go_ret
      exact ⟨_, _, _, rfl, HO.out.1, HO.out.2⟩
end Go.Proofs.YtbaedepmogkkeaaGreat
