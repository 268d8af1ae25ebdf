/- cache: its methods, as contracts; what is told of one that nobody made. No conditions but those on lengths. -/
import Derived.Test.YtdicpbecdhaphaaLruVK
namespace Go.Proofs.Ytdicpbecdhaphaa.Av.LruK
open Go Go.RowKit Pre
set_option linter.unusedVariables false
set_option linter.unusedSimpArgs false
set_option maxRecDepth 100000
set_option maxHeartbeats 4000000
abbrev chB (h ms : Int) : ABlk := ⟨[Z h, Z ms, .ptr 1 0], none, false, false⟩
/-- a cache: itself, and its Lru -/
abbrev Ch (most : Nat) (xs : Xs) (h ms : Int) : List ABlk := [chB h ms, Lr most xs]
abbrev nobC : ABlk := ⟨[Z 0, Z 0, nilP], none, false, true⟩
theorem cok_nil : SM 81 [nilP] [] [] (B false) [] := by
  refine SM_ Try.func81 (by kernel_rfl) rfl (Nat.le_of_ble_eq_true rfl) (Nat.zero_le _) ?_
  show avc Try.prog SP _ _ _ _ _ _
  dsimp only [avc, startS, Array.toList, Try.f81]
  exact Av.W
theorem cok_zero : SM 81 [.ptr 0 0] [nobC] [.ptr 0 0] (B false) [nobC] := by
  refine SM_ Try.func81 (by kernel_rfl) rfl (Nat.le_of_ble_eq_true rfl) (Nat.succ_le_succ (Nat.zero_le _)) ?_
  show avc Try.prog SP _ _ _ _ _ _
  dsimp only [avc, startS, Array.toList, Try.f81]
  exact Av.W
theorem cknow_nil (k : List UInt8) (v : VT) : SM 87 [nilP, T k, .ex (vA v)] [] [] (.tup []) [] := by
  refine SM_ Try.func87 (by kernel_rfl) rfl (Nat.le_of_ble_eq_true rfl) (Nat.zero_le _) ?_
  show avc Try.prog SP _ _ _ _ _ _
  dsimp only [avc, startS, Array.toList, Try.f87]
  have hW0 := cok_nil
  have hW1 : Av.Mk 7 [0,1,3,7,0,0,63] := ⟨⟩
  exact Av.W
theorem cknow_zero (k : List UInt8) (v : VT) : SM 87 [.ptr 0 0, T k, .ex (vA v)] [nobC] [.ptr 0 0] (.tup []) [nobC] := by
  refine SM_ Try.func87 (by kernel_rfl) rfl (Nat.le_of_ble_eq_true rfl) (Nat.succ_le_succ (Nat.zero_le _)) ?_
  show avc Try.prog SP _ _ _ _ _ _
  dsimp only [avc, startS, Array.toList, Try.f87]
  have hW2 := cok_zero
  have hW3 : Av.Mk 7 [0,1,3,7,0,0,63] := ⟨⟩
  exact Av.W
theorem cnote_nil (k t : List UInt8) : SM 52 [nilP, T k, T t] [] [] (.tup []) [] := by
  have c := cknow_nil k (t, true)
  refine SM_ Try.func52 (by kernel_rfl) rfl (Nat.le_of_ble_eq_true rfl) (Nat.zero_le _) ?_
  show avc Try.prog SP _ _ _ _ _ _
  dsimp only [avc, startS, Array.toList, Try.f52]
  exact Av.W
theorem cnote_zero (k t : List UInt8) : SM 52 [.ptr 0 0, T k, T t] [nobC] [.ptr 0 0] (.tup []) [nobC] := by
  have c := cknow_zero k (t, true)
  refine SM_ Try.func52 (by kernel_rfl) rfl (Nat.le_of_ble_eq_true rfl) (Nat.succ_le_succ (Nat.zero_le _)) ?_
  show avc Try.prog SP _ _ _ _ _ _
  dsimp only [avc, startS, Array.toList, Try.f52]
  exact Av.W
theorem cmiss_nil (k : List UInt8) : SM 53 [nilP, T k] [] [] (.tup []) [] := by
  have c := cknow_nil k ([], false)
  refine SM_ Try.func53 (by kernel_rfl) rfl (Nat.le_of_ble_eq_true rfl) (Nat.zero_le _) ?_
  show avc Try.prog SP _ _ _ _ _ _
  dsimp only [avc, startS, Array.toList, Try.f53]
  exact Av.W
theorem cmiss_zero (k : List UInt8) : SM 53 [.ptr 0 0, T k] [nobC] [.ptr 0 0] (.tup []) [nobC] := by
  have c := cknow_zero k ([], false)
  refine SM_ Try.func53 (by kernel_rfl) rfl (Nat.le_of_ble_eq_true rfl) (Nat.succ_le_succ (Nat.zero_le _)) ?_
  show avc Try.prog SP _ _ _ _ _ _
  dsimp only [avc, startS, Array.toList, Try.f53]
  exact Av.W
theorem clook_nil (k : List UInt8) : SM 51 [nilP, T k] [] [] (.tup [T [], B false, B false]) [] := by
  refine SM_ Try.func51 (by kernel_rfl) rfl (Nat.le_of_ble_eq_true rfl) (Nat.zero_le _) ?_
  show avc Try.prog SP _ _ _ _ _ _
  dsimp only [avc, startS, Array.toList, Try.f51]
  have hW4 := cok_nil
  have hW5 : Av.Mk 8 [0,1,0,4,0,3,47,127] := ⟨⟩
  exact Av.W
theorem clook_zero (k : List UInt8) : SM 51 [.ptr 0 0, T k] [nobC] [.ptr 0 0] (.tup [T [], B false, B false]) [nobC] := by
  refine SM_ Try.func51 (by kernel_rfl) rfl (Nat.le_of_ble_eq_true rfl) (Nat.succ_le_succ (Nat.zero_le _)) ?_
  show avc Try.prog SP _ _ _ _ _ _
  dsimp only [avc, startS, Array.toList, Try.f51]
  have hW6 := cok_zero
  have hW7 : Av.Mk 8 [0,1,0,4,0,3,47,127] := ⟨⟩
  exact Av.W
theorem cforget_nil (k : List UInt8) : SM 47 [nilP, T k] [] [] (B false) [] := by
  refine SM_ Try.func47 (by kernel_rfl) rfl (Nat.le_of_ble_eq_true rfl) (Nat.zero_le _) ?_
  show avc Try.prog SP _ _ _ _ _ _
  dsimp only [avc, startS, Array.toList, Try.f47]
  have hW8 := cok_nil
  exact Av.W
theorem cforget_zero (k : List UInt8) : SM 47 [.ptr 0 0, T k] [nobC] [.ptr 0 0] (B false) [nobC] := by
  refine SM_ Try.func47 (by kernel_rfl) rfl (Nat.le_of_ble_eq_true rfl) (Nat.succ_le_succ (Nat.zero_le _)) ?_
  show avc Try.prog SP _ _ _ _ _ _
  dsimp only [avc, startS, Array.toList, Try.f47]
  have hW9 := cok_zero
  exact Av.W
theorem cunder_nil (k : List UInt8) : SM 48 [nilP, T k] [] [] (Z 0) [] := by
  refine SM_ Try.func48 (by kernel_rfl) rfl (Nat.le_of_ble_eq_true rfl) (Nat.zero_le _) ?_
  show avc Try.prog SP _ _ _ _ _ _
  dsimp only [avc, startS, Array.toList, Try.f48]
  have hW10 := cok_nil
  exact Av.W
theorem cunder_zero (k : List UInt8) : SM 48 [.ptr 0 0, T k] [nobC] [.ptr 0 0] (Z 0) [nobC] := by
  refine SM_ Try.func48 (by kernel_rfl) rfl (Nat.le_of_ble_eq_true rfl) (Nat.succ_le_succ (Nat.zero_le _)) ?_
  show avc Try.prog SP _ _ _ _ _ _
  dsimp only [avc, startS, Array.toList, Try.f48]
  have hW11 := cok_zero
  exact Av.W
theorem cpurge_nil : SM 49 [nilP] [] [] (.tup []) [] := by
  refine SM_ Try.func49 (by kernel_rfl) rfl (Nat.le_of_ble_eq_true rfl) (Nat.zero_le _) ?_
  show avc Try.prog SP _ _ _ _ _ _
  dsimp only [avc, startS, Array.toList, Try.f49]
  have hW12 := cok_nil
  exact Av.W
theorem cpurge_zero : SM 49 [.ptr 0 0] [nobC] [.ptr 0 0] (.tup []) [nobC] := by
  refine SM_ Try.func49 (by kernel_rfl) rfl (Nat.le_of_ble_eq_true rfl) (Nat.succ_le_succ (Nat.zero_le _)) ?_
  show avc Try.prog SP _ _ _ _ _ _
  dsimp only [avc, startS, Array.toList, Try.f49]
  have hW13 := cok_zero
  exact Av.W
theorem clen_nil : SM 54 [nilP] [] [] (Z 0) [] := by
  refine SM_ Try.func54 (by kernel_rfl) rfl (Nat.le_of_ble_eq_true rfl) (Nat.zero_le _) ?_
  show avc Try.prog SP _ _ _ _ _ _
  dsimp only [avc, startS, Array.toList, Try.f54]
  have hW14 := cok_nil
  exact Av.W
theorem clen_zero : SM 54 [.ptr 0 0] [nobC] [.ptr 0 0] (Z 0) [nobC] := by
  refine SM_ Try.func54 (by kernel_rfl) rfl (Nat.le_of_ble_eq_true rfl) (Nat.succ_le_succ (Nat.zero_le _)) ?_
  show avc Try.prog SP _ _ _ _ _ _
  dsimp only [avc, startS, Array.toList, Try.f54]
  have hW15 := cok_zero
  exact Av.W
theorem cmost_nil : SM 79 [nilP] [] [] (Z 0) [] := by
  refine SM_ Try.func79 (by kernel_rfl) rfl (Nat.le_of_ble_eq_true rfl) (Nat.zero_le _) ?_
  show avc Try.prog SP _ _ _ _ _ _
  dsimp only [avc, startS, Array.toList, Try.f79]
  have hW16 := cok_nil
  exact Av.W
theorem cmost_zero : SM 79 [.ptr 0 0] [nobC] [.ptr 0 0] (Z 0) [nobC] := by
  refine SM_ Try.func79 (by kernel_rfl) rfl (Nat.le_of_ble_eq_true rfl) (Nat.succ_le_succ (Nat.zero_le _)) ?_
  show avc Try.prog SP _ _ _ _ _ _
  dsimp only [avc, startS, Array.toList, Try.f79]
  have hW17 := cok_zero
  exact Av.W
theorem chits_nil : SM 78 [nilP] [] [] (.tup [Z 0, Z 0]) [] := by
  refine SM_ Try.func78 (by kernel_rfl) rfl (Nat.le_of_ble_eq_true rfl) (Nat.zero_le _) ?_
  show avc Try.prog SP _ _ _ _ _ _
  dsimp only [avc, startS, Array.toList, Try.f78]
  have hW18 := cok_nil
  have hW19 : Av.Mk 12 [0,1,3,7,15,0,32,96,224,480,31,2047] := ⟨⟩
  exact Av.W
theorem chits_zero : SM 78 [.ptr 0 0] [nobC] [.ptr 0 0] (.tup [Z 0, Z 0]) [nobC] := by
  refine SM_ Try.func78 (by kernel_rfl) rfl (Nat.le_of_ble_eq_true rfl) (Nat.succ_le_succ (Nat.zero_le _)) ?_
  show avc Try.prog SP _ _ _ _ _ _
  dsimp only [avc, startS, Array.toList, Try.f78]
  have hW20 := cok_zero
  have hW21 : Av.Mk 12 [0,1,3,7,15,0,32,96,224,480,31,2047] := ⟨⟩
  exact Av.W
theorem cfork_nil : SM 50 [nilP] [] [] (nilP) [] := by
  refine SM_ Try.func50 (by kernel_rfl) rfl (Nat.le_of_ble_eq_true rfl) (Nat.zero_le _) ?_
  show avc Try.prog SP _ _ _ _ _ _
  dsimp only [avc, startS, Array.toList, Try.f50]
  have hW22 := cok_nil
  have hW23 : Av.Mk 12 [0,1,3,7,0,16,48,112,240,511,1023,2047] := ⟨⟩
  exact Av.W
theorem cfork_zero : SM 50 [.ptr 0 0] [nobC] [.ptr 0 0] (nilP) [nobC] := by
  refine SM_ Try.func50 (by kernel_rfl) rfl (Nat.le_of_ble_eq_true rfl) (Nat.succ_le_succ (Nat.zero_le _)) ?_
  show avc Try.prog SP _ _ _ _ _ _
  dsimp only [avc, startS, Array.toList, Try.f50]
  have hW24 := cok_zero
  have hW25 : Av.Mk 12 [0,1,3,7,0,16,48,112,240,511,1023,2047] := ⟨⟩
  exact Av.W
theorem cnew_yes (most : Nat) (h : most ≤ 64) : SM 46 [Z most] [] [] (.tup [.ptr 0 0, Z 0]) (Ch most [] 0 0) := by
  have c := new_yes most h
  refine SM_ Try.func46 (by kernel_rfl) rfl (Nat.le_of_ble_eq_true rfl) (Nat.zero_le _) ?_
  show avc Try.prog SP _ _ _ _ _ _
  dsimp only [avc, startS, Array.toList, Try.f46]
  exact Av.W
theorem cnew_no (n : Int) (h : n < 0 ∨ 64 < n) : SM 46 [Z n] [] [] (.tup [nilP, Z 2]) [] := by
  have c := new_no n h
  refine SM_ Try.func46 (by kernel_rfl) rfl (Nat.le_of_ble_eq_true rfl) (Nat.zero_le _) ?_
  show avc Try.prog SP _ _ _ _ _ _
  dsimp only [avc, startS, Array.toList, Try.f46]
  exact Av.W
section
variable (most : Nat) (xs : Xs) (h ms : Int)
theorem cok_c : SM 81 [.ptr 0 0] (Ch most xs h ms) [.ptr 0 0] (B true) (Ch most xs h ms) := by
  refine SM_ Try.func81 (by kernel_rfl) rfl (Nat.le_of_ble_eq_true rfl) (Nat.succ_le_succ (Nat.zero_le _)) ?_
  show avc Try.prog SP _ _ _ _ _ _
  dsimp only [avc, startS, Array.toList, Try.f81]
  exact Av.W
theorem clen_c : SM 54 [.ptr 0 0] (Ch most xs h ms) [.ptr 0 0] (Z xs.length) (Ch most xs h ms) := by
  have ok := cok_c most xs h ms
  have c := len_c most xs
  refine SM_ Try.func54 (by kernel_rfl) rfl (Nat.le_of_ble_eq_true rfl) (Nat.succ_le_succ (Nat.zero_le _)) ?_
  show avc Try.prog SP _ _ _ _ _ _
  dsimp only [avc, startS, Array.toList, Try.f54]
  exact Av.W
theorem cmost_c : SM 79 [.ptr 0 0] (Ch most xs h ms) [.ptr 0 0] (Z most) (Ch most xs h ms) := by
  have ok := cok_c most xs h ms
  have c := most_c most xs
  refine SM_ Try.func79 (by kernel_rfl) rfl (Nat.le_of_ble_eq_true rfl) (Nat.succ_le_succ (Nat.zero_le _)) ?_
  show avc Try.prog SP _ _ _ _ _ _
  dsimp only [avc, startS, Array.toList, Try.f79]
  exact Av.W
theorem chits_c : SM 78 [.ptr 0 0] (Ch most xs h ms) [.ptr 0 0] (.tup [Z h, Z ms]) (Ch most xs h ms) := by
  have ok := cok_c most xs h ms
  refine SM_ Try.func78 (by kernel_rfl) rfl (Nat.le_of_ble_eq_true rfl) (Nat.succ_le_succ (Nat.zero_le _)) ?_
  show avc Try.prog SP _ _ _ _ _ _
  dsimp only [avc, startS, Array.toList, Try.f78]
  have hW26 : Av.Mk 12 [0,1,3,7,15,0,32,96,224,480,31,2047] := ⟨⟩
  exact Av.W
theorem cpurge_c : SM 49 [.ptr 0 0] (Ch most xs h ms) [.ptr 0 0] (.tup []) (Ch most [] h ms) := by
  have ok := cok_c most xs h ms
  have c := clear_c most xs
  refine SM_ Try.func49 (by kernel_rfl) rfl (Nat.le_of_ble_eq_true rfl) (Nat.succ_le_succ (Nat.zero_le _)) ?_
  show avc Try.prog SP _ _ _ _ _ _
  dsimp only [avc, startS, Array.toList, Try.f49]
  exact Av.W
theorem cforget_c (k : List UInt8) : SM 47 [.ptr 0 0, T k] (Ch most xs h ms) [.ptr 0 0] (B (has xs k)) (Ch most (wo xs k) h ms) := by
  have ok := cok_c most xs h ms
  have c := del_c most xs k
  generalize has xs k = b at *
  generalize wo xs k = Y at *
  refine SM_ Try.func47 (by kernel_rfl) rfl (Nat.le_of_ble_eq_true rfl) (Nat.succ_le_succ (Nat.zero_le _)) ?_
  show avc Try.prog SP _ _ _ _ _ _
  dsimp only [avc, startS, Array.toList, Try.f47]
  exact Av.W
theorem cunder_c (p : List UInt8) (hn : xs.length ≤ 1000) (hd : NdX xs) (hk : KB xs) (hp : p.length ≤ 1000) : SM 48 [.ptr 0 0, T p] (Ch most xs h ms) [.ptr 0 0] (Z ((xs.length : Int) - (dropX xs p).length)) (Ch most (dropX xs p) h ms) := by
  have ok := cok_c most xs h ms
  have c := drop_c most xs p hn hd hk hp
  generalize dropX xs p = Y at *
  refine SM_ Try.func48 (by kernel_rfl) rfl (Nat.le_of_ble_eq_true rfl) (Nat.succ_le_succ (Nat.zero_le _)) ?_
  show avc Try.prog SP _ _ _ _ _ _
  dsimp only [avc, startS, Array.toList, Try.f48]
  exact Av.W
theorem cknow_c (k : List UInt8) (v : VT) (hn : xs.length ≤ most) : SM 87 [.ptr 0 0, T k, .ex (vA v)] (Ch most xs h ms) [.ptr 0 0] (.tup []) (Ch most (putX most xs k v) h ms) := by
  have ok := cok_c most xs h ms
  have c := put_c most xs k v hn
  generalize (putK most xs k v).1 = s at *
  generalize (putK most xs k v).2 = b at *
  generalize putX most xs k v = Y at *
  refine SM_ Try.func87 (by kernel_rfl) rfl (Nat.le_of_ble_eq_true rfl) (Nat.succ_le_succ (Nat.zero_le _)) ?_
  show avc Try.prog SP _ _ _ _ _ _
  dsimp only [avc, startS, Array.toList, Try.f87]
  have hW27 : Av.Mk 7 [0,1,3,7,0,0,63] := ⟨⟩
  exact Av.W
theorem cnote_c (k t : List UInt8) (hn : xs.length ≤ most) : SM 52 [.ptr 0 0, T k, T t] (Ch most xs h ms) [.ptr 0 0] (.tup []) (Ch most (putX most xs k (t, true)) h ms) := by
  have c := cknow_c most xs h ms k (t, true) hn
  generalize putX most xs k (t, true) = Y at *
  refine SM_ Try.func52 (by kernel_rfl) rfl (Nat.le_of_ble_eq_true rfl) (Nat.succ_le_succ (Nat.zero_le _)) ?_
  show avc Try.prog SP _ _ _ _ _ _
  dsimp only [avc, startS, Array.toList, Try.f52]
  exact Av.W
theorem cmiss_c (k : List UInt8) (hn : xs.length ≤ most) : SM 53 [.ptr 0 0, T k] (Ch most xs h ms) [.ptr 0 0] (.tup []) (Ch most (putX most xs k ([], false)) h ms) := by
  have c := cknow_c most xs h ms k ([], false) hn
  generalize putX most xs k ([], false) = Y at *
  refine SM_ Try.func53 (by kernel_rfl) rfl (Nat.le_of_ble_eq_true rfl) (Nat.succ_le_succ (Nat.zero_le _)) ?_
  show avc Try.prog SP _ _ _ _ _ _
  dsimp only [avc, startS, Array.toList, Try.f53]
  exact Av.W
theorem clook_yes (k : List UInt8) (hh : has xs k = true) (h0 : 0 ≤ h) (h1 : h ≤ 1000) : SM 51 [.ptr 0 0, T k] (Ch most xs h ms) [.ptr 0 0] (.tup [T (val xs k).1, B (val xs k).2, B true]) (Ch most (getX xs k) (h + 1) ms) := by
  have ok := cok_c most xs h ms
  have c := get_c most xs k
  rw [hh] at c
  generalize val xs k = v at *
  generalize getX xs k = Y at *
  refine SM_ Try.func51 (by kernel_rfl) rfl (Nat.le_of_ble_eq_true rfl) (Nat.succ_le_succ (Nat.zero_le _)) ?_
  show avc Try.prog SP _ _ _ _ _ _
  dsimp only [avc, startS, Array.toList, Try.f51]
  have hW28 : Av.Mk 8 [0,1,0,4,0,3,47,127] := ⟨⟩
  exact Av.W
theorem clook_no (k : List UInt8) (hh : has xs k = false) (h0 : 0 ≤ ms) (h1 : ms ≤ 1000) : SM 51 [.ptr 0 0, T k] (Ch most xs h ms) [.ptr 0 0] (.tup [T [], B false, B false]) (Ch most xs h (ms + 1)) := by
  have ok := cok_c most xs h ms
  have c := get_c most xs k
  have e : getX xs k = xs := by unfold getX; rw [hh]; rfl
  rw [hh, val_no hh, e] at c
  refine SM_ Try.func51 (by kernel_rfl) rfl (Nat.le_of_ble_eq_true rfl) (Nat.succ_le_succ (Nat.zero_le _)) ?_
  show avc Try.prog SP _ _ _ _ _ _
  dsimp only [avc, startS, Array.toList, Try.f51]
  have hW29 : Av.Mk 8 [0,1,0,4,0,3,47,127] := ⟨⟩
  exact Av.W
theorem cfork_c (hn : xs.length ≤ most) : SM 50 [.ptr 0 0] (Ch most xs h ms) [.ptr 0 0] (.ptr 1 0) [⟨[Z h, Z ms, .ptr 2 0], none, false, false⟩, ⟨[Z h, Z ms, .ptr 3 0], none, false, false⟩, Lr most xs, Lr most xs] := by
  have ok := cok_c most xs h ms
  have c := fork_c most xs hn
  refine SM_ Try.func50 (by kernel_rfl) rfl (Nat.le_of_ble_eq_true rfl) (Nat.succ_le_succ (Nat.zero_le _)) ?_
  show avc Try.prog SP _ _ _ _ _ _
  dsimp only [avc, startS, Array.toList, Try.f50]
  have hW30 : Av.Mk 12 [0,1,3,7,0,16,48,112,240,511,1023,2047] := ⟨⟩
  exact Av.W
end
end Go.Proofs.Ytdicpbecdhaphaa.Av.LruK
