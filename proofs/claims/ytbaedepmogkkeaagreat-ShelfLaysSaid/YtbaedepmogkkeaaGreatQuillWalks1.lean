/- quill: numbers and rows laid behind bytes, walked; and the reference's. No conditions but that lengths stay far below what memory holds. -/
import Derived.Test.YtbaedepmogkkeaaGreatSlice
import Derived.Test.YtbaedepmogkkeaaGreatQuillPure
namespace Go.Proofs.YtbaedepmogkkeaaGreat
set_option linter.unusedSimpArgs false
set_option linter.unusedVariables false
set_option maxRecDepth 100000
open Go.RowKit

/-- What comes back is a slice of the call's own with just these bytes. -/
def RetB (base : Nat) (w : World) (l : List UInt8) (e : Ending) (w' : World) : Prop :=
  ∃ A n c, e = .returned (.slice A n c) ∧ OwnB w' base A n c l ∧ Below base w w'

set_option maxHeartbeats 400000 in
theorem sized_yes (n : Int) (w : World) (h1 : 1 ≤ n) (h2 : n ≤ 8) : Calls Tryz.prog 176 #[.int .i64 n] w fun e w' => e = .returned (.bool true) ∧ w = w' := by
  go_enter Tryz.func176, Tryz.ntmps176
  go_wp2
  go_ret
  exact ⟨by simp [h1, h2], rfl⟩
set_option maxHeartbeats 400000 in
theorem sized_no (n : Int) (w : World) (h : n < 1 ∨ 8 < n) : Calls Tryz.prog 176 #[.int .i64 n] w fun e w' => e = .returned (.bool false) ∧ w = w' := by
  rcases h with h | h
  · have h' : decide (1 ≤ n) = false := by simp; omega
    go_enter Tryz.func176, Tryz.ntmps176
    go_wp2
    go_ret
    exact ⟨by simp [h'], rfl⟩
  · have h' : 1 ≤ n := by omega
    go_enter Tryz.func176, Tryz.ntmps176
    go_wp2
    go_ret
    exact ⟨by simp; omega, rfl⟩

set_option maxHeartbeats 400000 in
theorem grown_any (A : Option Addr) (n c m : Nat) (l : List UInt8) (w : World) (base : Nat) (hr : RdB w A n l) (hn : n ≤ 70368744177664) (hm : m ≤ 70368744177664) (hb : base ≤ w.heap.size) :
    Calls Tryz.prog 177 #[.slice A n c, .int .i64 m] w (RetB base w l) := by
  have HR := Lib.hid hr; clear hr
  go_enter Tryz.func177, Tryz.ntmps177
  go_wp2_with (at_make; refine wpList_makeB _ rfl _ _ rfl base n (n + m) rfl rfl rfl (by omega) (by omega) (by omega) hb ?_)
  intro w1 hown hb1 hz1
  go_wp2_with (with_reducible refine wpList_copyB _ rfl (.tmp 13) (.tmp 14) rfl base rfl hown.out rfl (HR.out.below hb1) (by simp) ?_)
  intro w2 hown2 hb2
  go_wp2_with fail
  go_ret
  have e : l.take n ++ (List.replicate n (0 : UInt8)).drop n = l := by rw [List.drop_eq_nil_of_le (by simp), List.append_nil, List.take_of_length_le (by have := HR.out.1; omega)]
  have h := hown2.out
  rw [over, e] at h
  exact ⟨_, _, _, rfl, h, (hb1.mono hb).trans hb2⟩

set_option maxHeartbeats 400000 in
theorem lay_any (A : Option Addr) (n c size x : Nat) (l : List UInt8) (w : World) (base : Nat) (hown : OwnB w base A n c l) (hs : size ≤ 8) (hn : n ≤ 70368744177664) (hx : x < 18446744073709551616) (hb : base ≤ w.heap.size) :
    Calls Tryz.prog 178 #[.slice A n c, .int .i64 size, .int .u64 x] w (RetB base w (l ++ Quill.numB size x)) := by
  have HO := Lib.hid hown; clear hown
  go_enter Tryz.func178, Tryz.ntmps178
  go_wp2
  go_loopw [0, 7] (fun v i wr => ∃ (k : Nat) (A' : Option Addr) (c' : Nat), k ≤ size ∧ i = .int .i64 (8 * ((size : Int) - 1 - k)) ∧ v = .slice A' (n + k) c' ∧ OwnB wr base A' (n + k) c' (l ++ (List.range k).map (Quill.byteOf size x)) ∧ Below base w wr) (fun _ i _ => (intOf i + 8).toNat)
  case atStart => exact ⟨0, A, c, by omega, by go_num, rfl, by simpa using HO.out, Below.refl _ _⟩
  case round =>
    clear HO
    obtain ⟨k, A', c', hk, rfl, rfl, hown, hbel⟩ := hrel
    have HO := Lib.hid (And.intro hown hbel); clear hown hbel
    by_cases hlt : k < size
    · obtain ⟨t, ht, hT⟩ : ∃ t : Nat, 8 * ((size : Int) - 1 - k) = t ∧ Hid (t = 8 * (size - 1 - k)) := ⟨8 * (size - 1 - k), by omega, rfl⟩
      obtain ⟨b, hbv, hB⟩ : ∃ b : UInt8, (x : Int) / 2 ^ t % 256 = (b.toNat : Int) ∧ Hid (b = Quill.byteOf size x k) := ⟨Quill.byteOf size x k, by rw [Quill.byteOf_toNat, ← hT.out]; exact Quill.cast_byte x t, rfl⟩
      have hbz : base ≤ wr.heap.size := Nat.le_trans hb HO.out.2.size
      go_wp2_with (at_builtin; refine wpList_appB _ rfl _ _ rfl base rfl (HO.out.1.alloc _) rfl (RdB.one wr b) (by omega) (by simp; omega) ?_)
      intro A2 c2 w2 hown2 hg2
      go_wp2_with fail
      go_roundw
      case rel =>
        refine ⟨k + 1, A2, c2, by omega, by rw [← ht]; go_num, rfl, ?_, HO.out.2.trans (((Below.refl base wr).alloc hbz _).trans (grown_below (HO.out.1.alloc _) hg2 (by simp; omega)))⟩
        have h := hown2.out
        rw [cat, hB.out, List.append_assoc, ← Quill.range_map_snoc] at h
        exact h
      case measure => simp [intOf]; omega
    · obtain rfl : k = size := by omega
      go_wp2
      go_ret
      exact ⟨_, _, _, rfl, HO.out.1, HO.out.2⟩
end Go.Proofs.YtbaedepmogkkeaaGreat
