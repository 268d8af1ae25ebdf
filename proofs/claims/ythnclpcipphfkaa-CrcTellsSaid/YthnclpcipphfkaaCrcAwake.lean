/- 'awake' of the laws of crc: it returns true. No conditions. -/
import Derived.Test.YthnclpcipphfkaaCrcWalks5
namespace Go.Proofs.Ythnclpcipphfkaa
open Go.RowKit

set_option maxHeartbeats 1000000 in
theorem awake_any (w : World) :
    Calls Try.prog 8 #[] w fun e w' => e = .returned (.bool true) ∧ Below w.heap.size w w' := by
  have e1 : Crc.sealed [97, 98] = [97, 98, 158, 131, 72, 109] := by decide +kernel
  have e2 : Crc.opened [97, 98, 158, 131, 72, 109] = ([97, 98], 0) := by decide +kernel
  have e3 : Crc.opened [97, 98, 99, 100, 101] = ([], 10) := by decide +kernel
  have e4 : Crc.opened [97, 98, 99] = ([], 3) := by decide +kernel
  have e5 : Crc.sum [49, 50, 51, 52, 53, 54, 55, 56, 57] = 3421780262#32 := by decide +kernel
  have e6 : Crc.sum [] = 0#32 := by decide +kernel
  have e7 : Crc.sum [97] = 3904355907#32 := by decide +kernel
  have e8 : Crc.sum [98] = 1908338681#32 := by decide +kernel
  have e9 : Crc.sum [97, 98] = 2659403885#32 := by decide +kernel
  have e10 : Crc.skip 3904355907#32 1 ^^^ 1908338681#32 = 2659403885#32 := by decide +kernel
  have c1 : ∀ w, Calls Try.prog 19 #[.string (bs [97, 98])] w fun e w' => e = .returned (.string (bs [97, 98, 158, 131, 72, 109])) ∧ Below w.heap.size w w' := fun w => by
    have h := seal_any [97, 98] w (by simp)
    rwa [e1] at h
  have c2 : ∀ w, Calls Try.prog 17 #[.string (bs [97, 98, 158, 131, 72, 109])] w fun e w' => e = .returned (.tuple #[.string (bs [97, 98]), .int .i64 0]) ∧ Below w.heap.size w w' := fun w => by
    have h := open_any [97, 98, 158, 131, 72, 109] w (by simp)
    rwa [e2] at h
  have c3 : ∀ w, Calls Try.prog 17 #[.string (bs [97, 98, 99, 100, 101])] w fun e w' => e = .returned (.tuple #[.string (bs []), .int .i64 10]) ∧ Below w.heap.size w w' := fun w => by
    have h := open_any [97, 98, 99, 100, 101] w (by simp)
    rwa [e3] at h
  have c4 : ∀ w, Calls Try.prog 17 #[.string (bs [97, 98, 99])] w fun e w' => e = .returned (.tuple #[.string (bs []), .int .i64 3]) ∧ Below w.heap.size w w' := fun w => by
    have h := open_any [97, 98, 99] w (by simp)
    rwa [e4] at h
  have c5 : ∀ w, Calls Try.prog 13 #[.string (bs [49, 50, 51, 52, 53, 54, 55, 56, 57])] w fun e w' => e = .returned (.int .u32 3421780262) ∧ w = w' := fun w => by
    have h := sum_any [49, 50, 51, 52, 53, 54, 55, 56, 57] w (by simp)
    rwa [e5] at h
  have c6 : ∀ w, Calls Try.prog 13 #[.string (bs [])] w fun e w' => e = .returned (.int .u32 0) ∧ w = w' := fun w => by
    have h := sum_any [] w (by simp)
    rwa [e6] at h
  have c7 : ∀ w, Calls Try.prog 13 #[.string (bs [97])] w fun e w' => e = .returned (.int .u32 3904355907) ∧ w = w' := fun w => by
    have h := sum_any [97] w (by simp)
    rwa [e7] at h
  have c8 : ∀ w, Calls Try.prog 13 #[.string (bs [98])] w fun e w' => e = .returned (.int .u32 1908338681) ∧ w = w' := fun w => by
    have h := sum_any [98] w (by simp)
    rwa [e8] at h
  have c9 : ∀ w, Calls Try.prog 13 #[.string (bs [97, 98])] w fun e w' => e = .returned (.int .u32 2659403885) ∧ w = w' := fun w => by
    have h := sum_any [97, 98] w (by simp)
    rwa [e9] at h
  have c10 : ∀ w, Calls Try.prog 21 #[.int .u32 3904355907, .int .u32 1908338681, .int .i64 1] w fun e w' => e = .returned (.int .u32 2659403885) ∧ Below w.heap.size w w' := fun w => by
    have h := join_any 3904355907#32 1908338681#32 1 (by omega) w
    rw [show (1 : Int).toNat = 1 from rfl, e10] at h
    exact h
  have c11 : ∀ w, Calls Try.prog 15 #[.int .u32 5, .int .i64 (-1)] w fun e w' => e = .returned (.int .u32 5) ∧ Below w.heap.size w w' := fun w => by
    have h := skip_any 5#32 (-1) (by omega) w
    exact h
  clear e1 e2 e3 e4 e5 e6 e7 e8 e9 e10
  have C := Lib.hid (And.intro c1 (And.intro c2 (And.intro c3 (And.intro c4 (And.intro c5 (And.intro c6 (And.intro c7 (And.intro c8 (And.intro c9 (And.intro c10 c11))))))))))
  clear c1 c2 c3 c4 c5 c6 c7 c8 c9 c10 c11
  go_enter Try.func8, Try.ntmps8
  go_wp2_with fail
  refine (C.out.1 _).mono ?_; rintro e w1 ⟨rfl, h1⟩
  go_wp2_with fail
  refine (C.out.2.1 _).mono ?_; rintro e w2 ⟨rfl, h2⟩
  go_wp2_with fail
  refine (C.out.2.2.1 _).mono ?_; rintro e w3 ⟨rfl, h3⟩
  go_wp2_with fail
  refine (C.out.2.2.2.1 _).mono ?_; rintro e w4 ⟨rfl, h4⟩
  go_wp2_with fail
  refine (C.out.2.2.2.2.1 _).mono ?_; rintro e w5 ⟨rfl, rfl⟩
  go_wp2_with fail
  refine (C.out.2.2.2.2.2.1 _).mono ?_; rintro e w5 ⟨rfl, rfl⟩
  go_wp2_with fail
  refine (C.out.2.2.2.2.2.2.2.2.2.2 _).mono ?_; rintro e w5 ⟨rfl, h5⟩
  go_wp2_with fail
  refine (C.out.2.2.2.2.2.2.1 _).mono ?_; rintro e w6 ⟨rfl, rfl⟩
  go_wp2_with fail
  refine (C.out.2.2.2.2.2.2.2.1 _).mono ?_; rintro e w6 ⟨rfl, rfl⟩
  go_wp2_with fail
  refine (C.out.2.2.2.2.2.2.2.2.2.1 _).mono ?_; rintro e w6 ⟨rfl, h6⟩
  go_wp2_with fail
  refine (C.out.2.2.2.2.2.2.2.2.1 _).mono ?_; rintro e w7 ⟨rfl, rfl⟩
  go_wp2_with fail
  go_ret
  exact ⟨rfl, below_chain (below_chain (below_chain (below_chain (below_chain h1 h2) h3) h4) h5) h6⟩
end Go.Proofs.Ythnclpcipphfkaa
