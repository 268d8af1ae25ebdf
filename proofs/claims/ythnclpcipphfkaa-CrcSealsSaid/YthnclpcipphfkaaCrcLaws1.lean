/- The laws CrcFeeds and CrcSeals of crc, walked: whatever the input, they return true and write nothing that was there. No conditions but that a text is no longer than a text may be. -/
import Derived.Test.YthnclpcipphfkaaCrcAwake
namespace Go.Proofs.Ythnclpcipphfkaa
open Go.RowKit

set_option maxHeartbeats 400000 in
theorem crcFeeds_walk (r : BitVec 32) (l : List UInt8) (n : Int) (w : World) (hl : l.length ≤ 9223372036854775807) (_h0 : -9223372036854775808 ≤ n) (_h9 : n ≤ 9223372036854775807) :
    Calls Try.prog 3 #[.int .u32 r.toNat, .string (bs l), .int .i64 n] w fun e w' => e = .returned (.bool true) ∧ Below w.heap.size w w' := by
  by_cases h1 : 300 < l.length
  · go_enter Try.func3, Try.ntmps3
    go_wp2_with (go_at_call 8; refine (awake_any _).mono ?_; rintro e w1 ⟨rfl, hb1⟩)
    go_ret
    exact ⟨rfl, hb1⟩
  · by_cases h2 : 2000 < n
    · go_enter Try.func3, Try.ntmps3
      go_wp2_with (go_at_call 8; refine (awake_any _).mono ?_; rintro e w1 ⟨rfl, hb1⟩)
      go_ret
      exact ⟨rfl, hb1⟩
    · obtain ⟨b, hby⟩ : ∃ b : UInt8, (r.toNat : Int) / 256 % 256 = (b.toNat : Int) := ⟨_, Crc.four2 r⟩
      go_enter Try.func3, Try.ntmps3
      go_wp2_with fail
      refine (step_any _ _ _).mono ?_; rintro e w1 ⟨rfl, rfl⟩
      go_wp2_with fail
      refine (refstep_any _ _ _).mono ?_; rintro e w1 ⟨rfl, rfl⟩
      clear hby
      go_wp2_with fail
      refine (feed_any _ _ _ (by omega)).mono ?_; rintro e w1 ⟨rfl, rfl⟩
      go_wp2_with fail
      refine (reffeed_any _ _ _ (by omega)).mono ?_; rintro e w1 ⟨rfl, rfl⟩
      go_wp2_with fail
      refine (sum_any _ _ (by omega)).mono ?_; rintro e w1 ⟨rfl, rfl⟩
      go_wp2_with fail
      refine (refsum_any _ _ (by omega)).mono ?_; rintro e w1 ⟨rfl, rfl⟩
      go_wp2_with fail
      refine (skip_any _ _ (by omega) _).mono ?_; rintro e w1 ⟨rfl, hb1⟩
      go_wp2_with fail
      refine (refskip_any _ _ (by omega) _).mono ?_; rintro e w2 ⟨rfl, rfl⟩
      go_wp2_with fail
      refine (awake_any _).mono ?_; rintro e w2 ⟨rfl, hb2⟩
      go_wp2_with fail
      go_ret
      exact ⟨rfl, below_chain hb1 hb2⟩

set_option maxHeartbeats 400000 in
theorem crcSeals_walk (l : List UInt8) (w : World) (hl : l.length ≤ 9223372036854775807) :
    Calls Try.prog 4 #[.string (bs l)] w fun e w' => e = .returned (.bool true) ∧ Below w.heap.size w w' := by
  by_cases h1 : 300 < l.length
  · go_enter Try.func4, Try.ntmps4
    go_wp2_with (go_at_call 8; refine (awake_any _).mono ?_; rintro e w1 ⟨rfl, hb1⟩)
    go_ret
    exact ⟨rfl, hb1⟩
  · go_enter Try.func4, Try.ntmps4
    go_wp2_with fail
    refine (open_any _ _ (by omega)).mono ?_; rintro e w1 ⟨rfl, hb1⟩
    go_wp2_with fail
    refine (refopen_any _ _ (by omega)).mono ?_; rintro e w2 ⟨rfl, hb2⟩
    go_wp2_with fail
    refine (seal_any _ _ (by omega)).mono ?_; rintro e w3 ⟨rfl, hb3⟩
    go_wp2_with fail
    refine (refseal_any _ _ (by omega)).mono ?_; rintro e w4 ⟨rfl, hb4⟩
    go_wp2_with fail
    refine (awake_any _).mono ?_; rintro e w5 ⟨rfl, hb5⟩
    go_wp2_with fail
    go_ret
    exact ⟨rfl, below_chain (below_chain (below_chain (below_chain hb1 hb2) hb3) hb4) hb5⟩
end Go.Proofs.Ythnclpcipphfkaa
