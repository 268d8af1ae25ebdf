/- quill: rows of texts, walked; the reference's; comparing lists of texts. No conditions but that lengths stay far below what memory holds. -/
import Derived.Test.YtbaedepmogkkeaaGreatQuillWalks2
import Derived.Test.YtbaedepmogkkeaaGreatVals
namespace Go.Proofs.YtbaedepmogkkeaaGreat
set_option linter.unusedSimpArgs false
set_option linter.unusedVariables false
open Go.RowKit

set_option maxHeartbeats 400000 in
theorem refnum_no (A : Option Addr) (n c x : Nat) (size : Int) (l : List UInt8) (w : World) (base : Nat) (hr : RdB w A n l) (h1 : size < 1 ∨ 8 < size) (hn : n ≤ 35184372088832) (hb : base ≤ w.heap.size) :
    Calls Tryz.prog 131 #[.slice A n c, .int .i64 size, .int .u64 x] w (RetB base w l) := by
  have HR := Lib.hid hr; clear hr
  rcases h1 with h1 | h1
  all_goals
    go_enter Tryz.func131, Tryz.ntmps131
    go_wp2_with (at_builtin; refine wpList_appB _ rfl _ _ rfl base rfl (OwnB.empty w base hb) rfl (HR.out.alloc _) (by omega) (by simp; omega) ?_)
    intro A1 c1 w1 ho1 hg1
    have hb1 : Below base w w1 := ((Below.refl base w).alloc hb _).trans (grown_below (OwnB.empty w base hb) hg1 (by simp; omega))
    clear hg1
    have ho1' : OwnB w1 base A1 n c1 l := by have h := ho1.out; rw [cat, List.nil_append] at h; exact h
    have HO := Lib.hid ho1'; clear ho1 ho1'
    go_wp2
    go_ret
    exact ⟨_, _, _, rfl, HO.out, hb1⟩

set_option maxHeartbeats 400000 in
theorem refrow_long (A : Option Addr) (n c : Nat) (s : List UInt8) (w : World) (base : Nat) (h : 65535 < s.length) (hb : base ≤ w.heap.size) :
    Calls Tryz.prog 132 #[.slice A n c, .string (bs s)] w (RetBE base w [] 5) := by
  go_enter Tryz.func132, Tryz.ntmps132
  go_wp2_with fail
  go_ret2
  exact ⟨_, _, _, rfl, OwnB.nil_ _ _, Below.refl _ _⟩

set_option maxHeartbeats 400000 in
theorem refrow_any (A : Option Addr) (n c : Nat) (l s : List UInt8) (w : World) (base : Nat) (hr : RdB w A n l) (hn : n ≤ 17592186044416) (hs : s.length ≤ 65535) (hb : base ≤ w.heap.size) :
    Calls Tryz.prog 132 #[.slice A n c, .string (bs s)] w (RetBE base w (l ++ Quill.rowB s) 0) := by
  have HR := Lib.hid hr; clear hr
  go_enter Tryz.func132, Tryz.ntmps132
  go_wp2_with fail
  refine (refnum_any A n c 2 s.length l _ base HR.out (by omega) (by omega) (by omega) (by omega) hb).mono ?_; rintro e w2 ⟨A2, n2, c2, rfl, ho2, hb2⟩
  have hz2 : base ≤ w2.heap.size := Nat.le_trans hb hb2.size
  have hn2 : n2 = n + 2 := by rw [← ho2.1, List.length_append, Quill.numB_length, HR.out.1]
  subst hn2
  have HO2 := Lib.hid ho2; clear ho2
  go_wp2_with (at_builtin; refine wpList_appS _ rfl _ _ rfl base rfl HO2.out rfl (by omega) hz2 ?_)
  intro A3 c3 w3 ho3 hg3
  go_wp2_with fail
  go_ret2
  have h := ho3.out
  rw [cat, List.append_assoc] at h
  exact ⟨_, _, _, rfl, h, hb2.trans (grown_below HO2.out hg3 hz2)⟩

theorem short_at {L : List (List UInt8)} {m : Nat} (h : ∀ s ∈ L, s.length ≤ m) {k : Nat} : (tAt L k).length ≤ m := by
  unfold tAt
  rcases Nat.lt_or_ge k L.length with hk | hk
  · rw [List.getElem?_eq_getElem hk]; exact h _ (List.getElem_mem hk)
  · rw [List.getElem?_eq_none hk]; simp

set_option maxHeartbeats 400000 in
theorem over_few (A : Option Addr) (n c : Nat) (L : List (List UInt8)) (w : World) (hr : RdT w A n L) (hn : n ≤ 40) (hs : ∀ s ∈ L, s.length ≤ 200) :
    Calls Tryz.prog 11 #[.slice A n c] w fun e w' => e = .returned (.int .i64 0) ∧ w = w' := by
  have HR := Lib.hid hr; clear hr
  have HS := Lib.hid hs; clear hs
  go_enter Tryz.func11, Tryz.ntmps11
  go_wp2
  go_loop [3] (fun i => ∃ k : Nat, k ≤ n ∧ i = .int .i64 k) (fun i => n - (intOf i).toNat)
  case atStart => exact ⟨0, by omega, rfl⟩
  case round =>
    obtain ⟨k, hk, rfl⟩ := hrel
    by_cases hlt : k < n
    · obtain ⟨b, o, rfl, hc⟩ := HR.out.at_ hlt
      have hsl := short_at HS.out (k := k)
      go_wp2
      go_round
      case rel => exact ⟨k + 1, by omega, by go_num⟩
      case measure => simp [intOf]; omega
    · go_wp2
      go_ret
      exact ⟨rfl, rfl⟩

set_option maxHeartbeats 400000 in
theorem over_many (A : Option Addr) (n c : Nat) (w : World) (hn : 40 < n) (hm : n ≤ 9223372036854775807) :
    Calls Tryz.prog 11 #[.slice A n c] w fun e w' => e = .returned (.int .i64 1) ∧ w = w' := by
  go_enter Tryz.func11, Tryz.ntmps11
  go_wp2
  go_ret
  exact ⟨rfl, rfl⟩

set_option maxHeartbeats 400000 in
theorem over_long (A : Option Addr) (n c : Nat) (L : List (List UInt8)) (w : World) (hr : RdT w A n L) (hn : n ≤ 40) (hm : ∀ s ∈ L, s.length ≤ 9223372036854775807) (hs : ∃ s ∈ L, 200 < s.length) :
    Calls Tryz.prog 11 #[.slice A n c] w fun e w' => e = .returned (.int .i64 1) ∧ w = w' := by
  obtain ⟨q, hq, hql⟩ : ∃ q, q < n ∧ 200 < (tAt L q).length := by
    obtain ⟨s, hs, hl⟩ := hs
    obtain ⟨q, hq⟩ := List.getElem?_of_mem hs
    have hqn : q < L.length := by
      rcases Nat.lt_or_ge q L.length with h | h
      · exact h
      · rw [List.getElem?_eq_none h] at hq; cases hq
    refine ⟨q, by rw [← hr.1]; exact hqn, ?_⟩
    unfold tAt; rw [hq]; exact hl
  clear hs
  have HR := Lib.hid hr; clear hr
  have HM := Lib.hid hm; clear hm
  go_enter Tryz.func11, Tryz.ntmps11
  go_wp2
  go_loop [3] (fun i => ∃ k : Nat, k ≤ q ∧ i = .int .i64 k) (fun i => n - (intOf i).toNat)
  case atStart => exact ⟨0, by omega, rfl⟩
  case round =>
    obtain ⟨k, hk, rfl⟩ := hrel
    have hlt : k < n := by omega
    obtain ⟨b, o, rfl, hc⟩ := HR.out.at_ hlt
    have hsl := short_at HM.out (k := k)
    by_cases hbig : 200 < (tAt L k).length
    · go_wp2
      go_ret
      exact ⟨rfl, rfl⟩
    · have hkq : k < q := by
        rcases Nat.lt_or_ge k q with h | h
        · exact h
        · exact absurd (by rw [show k = q by omega]; exact hql) hbig
      go_wp2
      go_round
      case rel => exact ⟨k + 1, by omega, by go_num⟩
      case measure => simp [intOf]; omega

set_option maxHeartbeats 400000 in
theorem same_no (A B : Option Addr) (n c m d : Nat) (w : World) (hn : n ≤ 9223372036854775807) (hm : m ≤ 9223372036854775807) (hne : n ≠ m) :
    Calls Tryz.prog 18 #[.slice A n c, .slice B m d] w fun e w' => e = .returned (.bool false) ∧ Below w.heap.size w w' := by
  go_enter Tryz.func18, Tryz.ntmps18
  go_wp2
  go_ret
  exact ⟨rfl, Below.refl _ _⟩

set_option maxHeartbeats 400000 in
theorem same_yes (A B : Option Addr) (n c d : Nat) (L : List (List UInt8)) (w : World) (hr : RdT w A n L) (hs : RdT w B n L) (hn : n ≤ 9223372036854775807) :
    Calls Tryz.prog 18 #[.slice A n c, .slice B n d] w fun e w' => e = .returned (.bool true) ∧ Below w.heap.size w w' := by
  have HR := Lib.hid hr; clear hr
  have HS := Lib.hid hs; clear hs
  go_enter Tryz.func18, Tryz.ntmps18
  go_wp2
  go_loopw [5] (fun i wr => ∃ k : Nat, k ≤ n ∧ i = .int .i64 k ∧ ∃ q, wr = w.drewN q) (fun i _ => n - (intOf i).toNat)
  case atStart => exact ⟨0, by omega, rfl, 0, rfl⟩
  case round =>
    obtain ⟨k, hk, rfl, q, rfl⟩ := hrel
    by_cases hlt : k < n
    · obtain ⟨b, o, rfl, hc⟩ := HR.out.at_ hlt
      obtain ⟨b2, o2, rfl, hc2⟩ := HS.out.at_ hlt
      have hki : (k : Int) < (n : Int) := by omega
      go_wp2_with fail
      go_quiet (fail)
      go_wp2_with fail
      go_roundw
      case rel => exact ⟨k + 1, by omega, by go_num, _, rfl⟩
      case measure => simp [intOf]; omega
    · go_wp2
      go_ret
      exact ⟨rfl, below_drewN (Below.refl _ _) q⟩
end Go.Proofs.YtbaedepmogkkeaaGreat
