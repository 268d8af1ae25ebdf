/- quill: all rows of a list of texts, walked; the reference's. No conditions but that texts are few and short, as the laws have them. -/
import Derived.Test.YtfonmnodjmeigaaQuillWalks3
namespace Go.Proofs.Ytfonmnodjmeigaa
set_option linter.unusedSimpArgs false
set_option linter.unusedVariables false
open Go.RowKit

theorem rowsB_bound (L : List (List UInt8)) (hs : ∀ s ∈ L, s.length ≤ 200) : (Quill.rowsB L).length ≤ 202 * L.length := by
  induction L with
  | nil => simp [Quill.rowsB]
  | cons s L ih =>
    have h1 := hs s (by simp)
    have h2 := ih (fun t ht => hs t (by simp [ht]))
    rw [Quill.rowsB, List.length_append, Quill.rowB_length, List.length_cons]
    omega
theorem rowsB_take (L : List (List UInt8)) (hs : ∀ s ∈ L, s.length ≤ 200) (k : Nat) (hk : k < L.length) : (Quill.rowsB (L.take (k + 1))) = Quill.rowsB (L.take k) ++ Quill.rowB (tAt L k) := by
  rw [take_snocT L k hk, Quill.rowsB_snoc]
theorem rowsB_take_bound (L : List (List UInt8)) (hs : ∀ s ∈ L, s.length ≤ 200) (k : Nat) (hn : L.length ≤ 40) : (Quill.rowsB (L.take k)).length ≤ 8080 := by
  have := rowsB_bound (L.take k) (fun s h => hs s (List.mem_of_mem_take h))
  have h2 : (L.take k).length ≤ 40 := Nat.le_trans (List.length_take_le' _ _) hn
  omega

theorem RetBE.low {base b : Nat} {w w' : World} {l : List UInt8} {n : Int} {e : Ending} (h : RetBE base w l n e w') (hb : b ≤ base) : RetBE b w l n e w' := by
  obtain ⟨A, k, c, he, ho, hl⟩ := h
  exact ⟨A, k, c, he, ho.low hb, hl.mono hb⟩

set_option maxHeartbeats 800000 in
theorem rows_few (A : Option Addr) (n c : Nat) (L : List (List UInt8)) (w : World) (hr : RdT w A n L) (hn : n ≤ 40) (hs : ∀ s ∈ L, s.length ≤ 200) :
    Calls Try.prog 30 #[.slice A n c] w (RetBE w.heap.size w (Quill.rowsB L) 0) := by
  have hL := hr.1
  have HL := Lib.hid hL; clear hL
  have HR := Lib.hid hr; clear hr
  have HS := Lib.hid hs; clear hs
  go_enter Try.func30, Try.ntmps30
  go_wp2
  go_loop [4, 15] (fun z i => ∃ k : Nat, k ≤ n ∧ i = .int .i64 k ∧ ∃ q : Nat, z = .int .i64 q ∧ q ≤ 202 * k) (fun _ i => n - (intOf i).toNat)
  case atStart => exact ⟨0, by omega, rfl, 0, rfl, by omega⟩
  case round =>
    obtain ⟨k, hk, rfl, q, rfl, hq⟩ := hrel
    by_cases hlt : k < n
    · obtain ⟨b, o, rfl, hc⟩ := HR.out.at_ hlt
      have hsl := short_at HS.out (k := k)
      go_wp2
      go_round
      case rel => exact ⟨k + 1, by omega, by go_num, q + (2 + (tAt L k).length), by go_num, by omega⟩
      case measure => simp [intOf]; omega
    · obtain rfl : k = n := by omega
      go_wp2_with (at_make; refine wpList_makeB _ rfl _ _ rfl w.heap.size 0 q rfl rfl rfl rfl (by omega) (by omega) (Nat.le_refl _) ?_)
      intro w1 ho1 hb1 hz1
      go_wp2_with fail
      have HO := Lib.hid (And.intro ho1.out hb1); clear ho1 hb1 hz1
      go_loopw [7, 32] (fun v i wr => ∃ (k' : Nat) (A' : Option Addr) (n' c' : Nat), k' ≤ k ∧ i = .int .i64 k' ∧ v = .slice A' n' c' ∧ OwnB wr w.heap.size A' n' c' (Quill.rowsB (L.take k')) ∧ Below w.heap.size w wr) (fun _ i _ => k - (intOf i).toNat)
      case atStart => exact ⟨0, _, _, _, by omega, rfl, rfl, by simpa [Quill.rowsB] using HO.out.1, HO.out.2⟩
      case round =>
        clear HO
        obtain ⟨k', A', n', c', hk', rfl, rfl, hown, hbel⟩ := hrel
        have hn' : n' ≤ 8080 := by rw [← hown.1]; exact rowsB_take_bound L HS.out k' (by rw [HL.out]; exact hn)
        have hz : w.heap.size ≤ wr.heap.size := hbel.size
        have HO := Lib.hid (And.intro hown hbel); clear hown hbel
        by_cases hlt' : k' < k
        · obtain ⟨b, o, rfl, hc⟩ := (HR.out.below HO.out.2).at_ hlt'
          have hsl := short_at HS.out (k := k')
          have hki : (k' : Int) < (k : Int) := by omega
          go_wp2_with fail
          refine (lay_any A' n' c' 2 (tAt L k').length _ _ w.heap.size HO.out.1 (by omega) (by omega) (by omega) hz).mono ?_; rintro e w2 ⟨A2, n2, c2, rfl, ho2, hb2⟩
          have hz2 : w.heap.size ≤ w2.heap.size := Nat.le_trans hz hb2.size
          have hn2 : n2 = n' + 2 := by rw [← ho2.1, List.length_append, Quill.numB_length, HO.out.1.1]
          subst hn2
          have HO2 := Lib.hid ho2; clear ho2 hc
          go_wp2_with (at_builtin; refine wpList_appS _ rfl _ _ rfl w.heap.size rfl HO2.out rfl (by omega) hz2 ?_)
          intro A3 c3 w3 ho3 hg3
          go_wp2_with fail
          go_roundw
          case rel =>
            refine ⟨k' + 1, A3, _, c3, by omega, by go_num, rfl, ?_, (HO.out.2.trans hb2).trans (grown_below HO2.out hg3 hz2)⟩
            have h := ho3.out
            rw [cat, List.append_assoc] at h
            rw [rowsB_take L HS.out k' (by rw [HL.out]; exact hlt')]
            exact h
          case measure => simp [intOf]; omega
        · obtain rfl : k' = k := by omega
          go_wp2
          go_ret2
          have h := HO.out.1
          rw [List.take_of_length_le (by rw [HL.out]; omega)] at h
          exact ⟨_, _, _, rfl, h, HO.out.2⟩

set_option maxHeartbeats 800000 in
theorem refrows_few (A : Option Addr) (n c : Nat) (L : List (List UInt8)) (w : World) (hr : RdT w A n L) (hn : n ≤ 40) (hs : ∀ s ∈ L, s.length ≤ 200) :
    Calls Try.prog 31 #[.slice A n c] w (RetBE w.heap.size w (Quill.rowsB L) 0) := by
  have hL := hr.1
  have HL := Lib.hid hL; clear hL
  have HR := Lib.hid hr; clear hr
  have HS := Lib.hid hs; clear hs
  go_enter Try.func31, Try.ntmps31
  go_wp2
  go_loopw [4, 5] (fun v i wr => ∃ (k' : Nat) (A' : Option Addr) (n' c' : Nat), k' ≤ n ∧ i = .int .i64 k' ∧ v = .slice A' n' c' ∧ OwnB wr w.heap.size A' n' c' (Quill.rowsB (L.take k')) ∧ Below w.heap.size w wr) (fun _ i _ => n - (intOf i).toNat)
  case atStart => exact ⟨0, _, _, _, by omega, rfl, rfl, by simpa [Quill.rowsB] using OwnB.nil_ _ _, Below.refl _ _⟩
  case round =>
    obtain ⟨k', A', n', c', hk', rfl, rfl, hown, hbel⟩ := hrel
    have hn' : n' ≤ 8080 := by rw [← hown.1]; exact rowsB_take_bound L HS.out k' (by rw [HL.out]; exact hn)
    have hz : w.heap.size ≤ wr.heap.size := hbel.size
    have HO := Lib.hid (And.intro hown hbel); clear hown hbel
    by_cases hlt' : k' < n
    · obtain ⟨b, o, rfl, hc⟩ := (HR.out.below HO.out.2).at_ hlt'
      have hsl := short_at HS.out (k := k')
      have hki : (k' : Int) < (n : Int) := by omega
      go_wp2_with fail
      refine (refrow_any A' n' c' _ (tAt L k') _ w.heap.size HO.out.1.rd (by omega) (by omega) hz).mono ?_; rintro e w2 ⟨A2, n2, c2, rfl, ho2, hb2⟩
      have HO2 := Lib.hid ho2; clear ho2 hc
      go_wp2_with fail
      go_roundw
      case rel =>
        refine ⟨k' + 1, A2, n2, c2, by omega, by go_num, rfl, ?_, HO.out.2.trans hb2⟩
        rw [rowsB_take L HS.out k' (by rw [HL.out]; exact hlt')]
        exact HO2.out
      case measure => simp [intOf]; omega
    · obtain rfl : k' = n := by omega
      go_wp2
      go_ret2
      have h := HO.out.1
      rw [List.take_of_length_le (by rw [HL.out]; omega)] at h
      exact ⟨_, _, _, rfl, h, HO.out.2⟩
end Go.Proofs.Ytfonmnodjmeigaa
