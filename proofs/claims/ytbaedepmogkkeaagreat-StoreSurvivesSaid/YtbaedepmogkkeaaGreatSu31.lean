/- What the claim stands on, Su31: contracts of functions and plain facts. No conditions. -/
import Derived.Test.YtbaedepmogkkeaaGreatSu28
namespace Go.Proofs.YtbaedepmogkkeaaGreat.Av
open Go Go.RowKit
set_option linter.unusedVariables false
set_option linter.unusedSimpArgs false
set_option maxRecDepth 100000
abbrev rdB (L : List (List UInt8)) (g : Nat) (at_ : Int) (got : AV) (pu : Bool) : ABlk := ⟨[.vs L.length (L.map T), U g, Z at_, got], none, false, pu⟩
abbrev rowTT (gs : List AV) (fz : Bool) : ABlk := ⟨gs, some 9, fz, true⟩
theorem hs1' : sizeT Tryz.prog 9 = 1 := by kernel_rfl
theorem step_outn (L : List (List UInt8)) (g : Nat) (at_ : Int) (pu : Bool) (h : at_ < 0 ∨ (L.length : Int) ≤ at_) :
  SM 190 [.ptr 0 0] [rdB L g at_ nilA pu] [.ptr 0 0] (B false) [rdB L g at_ nilA pu] := by
 cases pu
 ·refine SM_ Tryz.func190 (by kernel_rfl) rfl (Nat.le_of_ble_eq_true rfl) (Nat.le_refl 1) ?_ -- G
  have hW0 : Av.Mk 17 [0,1,3,7,15,31,63,127,255,511,63,1087,3135,7231,15423,32767,65535] := ⟨⟩
  have hW1 : Av.Mk 14 [0,1,3,7,0,16,48,112,255,511,1023,1023,2047,8191] := ⟨⟩
  have hW2 : Av.Mk 18 [0,1,3,7,0,16,48,112,255,511,1023,2047,4095,4095,4095,8191,49151,131071] := ⟨⟩
  exact Av.W
 ·refine SM_ Tryz.func190 (by kernel_rfl) rfl (Nat.le_of_ble_eq_true rfl) (Nat.le_refl 1) ?_ -- G
  have hW3 : Av.Mk 17 [0,1,3,7,15,31,63,127,255,511,63,1087,3135,7231,15423,32767,65535] := ⟨⟩
  have hW4 : Av.Mk 14 [0,1,3,7,0,16,48,112,255,511,1023,1023,2047,8191] := ⟨⟩
  have hW5 : Av.Mk 18 [0,1,3,7,0,16,48,112,255,511,1023,2047,4095,4095,4095,8191,49151,131071] := ⟨⟩
  exact Av.W
theorem step_markn (L : List (List UInt8)) (g : Nat) (at_ : Int) (pu : Bool) (m : Nat) (e : Int) (h0 : 0 ≤ at_) (h1 : at_ < L.length) (he : e ≠ 0) (hM : SP 66 [U g, Z at_] (.tup [U m, Z e])) :
  SM 190 [.ptr 0 0] [rdB L g at_ nilA pu] [.ptr 0 0] (B false) [rdB L g at_ nilA pu] := by
 cases pu
 ·refine SM_ Tryz.func190 (by kernel_rfl) rfl (Nat.le_of_ble_eq_true rfl) (Nat.le_refl 1) ?_ -- G
  have hW6 : Av.Mk 17 [0,1,3,7,15,31,63,127,255,511,63,1087,3135,7231,15423,32767,65535] := ⟨⟩
  have hW7 : Av.Mk 14 [0,1,3,7,0,16,48,112,255,511,1023,1023,2047,8191] := ⟨⟩
  have hW8 : Av.Mk 18 [0,1,3,7,0,16,48,112,255,511,1023,2047,4095,4095,4095,8191,49151,131071] := ⟨⟩
  exact Av.W
 ·refine SM_ Tryz.func190 (by kernel_rfl) rfl (Nat.le_of_ble_eq_true rfl) (Nat.le_refl 1) ?_ -- G
  have hW9 : Av.Mk 17 [0,1,3,7,15,31,63,127,255,511,63,1087,3135,7231,15423,32767,65535] := ⟨⟩
  have hW10 : Av.Mk 14 [0,1,3,7,0,16,48,112,255,511,1023,1023,2047,8191] := ⟨⟩
  have hW11 : Av.Mk 18 [0,1,3,7,0,16,48,112,255,511,1023,2047,4095,4095,4095,8191,49151,131071] := ⟨⟩
  exact Av.W
theorem step_openn (L : List (List UInt8)) (g : Nat) (at_ : Int) (pu : Bool) (m a : Nat) (s p : List UInt8) (e : Int) (h0 : 0 ≤ at_) (h1 : at_ < L.length) (he : e ≠ 0 ∨ a ≠ m) (hM : SP 66 [U g, Z at_] (.tup [U m, Z 0])) (hat : (L.map T)[mulS at_.toNat (sizeT Tryz.prog 9)]? = some (T s)) (hO : SP 73 [T s] (.tup [U a, T p, Z e])) :
  SM 190 [.ptr 0 0] [rdB L g at_ nilA pu] [.ptr 0 0] (B false) [rdB L g at_ nilA pu] := by
 cases pu
 ·refine SM_ Tryz.func190 (by kernel_rfl) rfl (Nat.le_of_ble_eq_true rfl) (Nat.le_refl 1) ?_ -- G
  have hW12 : Av.Mk 17 [0,1,3,7,15,31,63,127,255,511,63,1087,3135,7231,15423,32767,65535] := ⟨⟩
  have hW13 : Av.Mk 14 [0,1,3,7,0,16,48,112,255,511,1023,1023,2047,8191] := ⟨⟩
  have hW14 : Av.Mk 18 [0,1,3,7,0,16,48,112,255,511,1023,2047,4095,4095,4095,8191,49151,131071] := ⟨⟩
  exact Av.W
 ·refine SM_ Tryz.func190 (by kernel_rfl) rfl (Nat.le_of_ble_eq_true rfl) (Nat.le_refl 1) ?_ -- G
  have hW15 : Av.Mk 17 [0,1,3,7,15,31,63,127,255,511,63,1087,3135,7231,15423,32767,65535] := ⟨⟩
  have hW16 : Av.Mk 14 [0,1,3,7,0,16,48,112,255,511,1023,1023,2047,8191] := ⟨⟩
  have hW17 : Av.Mk 18 [0,1,3,7,0,16,48,112,255,511,1023,2047,4095,4095,4095,8191,49151,131071] := ⟨⟩
  exact Av.W
theorem step_outr (L : List (List UInt8)) (g : Nat) (at_ : Int) (k : Nat) (gs : List AV) (fz : Bool) (h : at_ < 0 ∨ (L.length : Int) ≤ at_) :
  SM 190 [.ptr 0 0] [rdB L g at_ (.sl 1 k) false, rowTT gs fz] [.ptr 0 0] (B false) [rdB L g at_ (.sl 1 k) false, rowTT gs fz] := by
 refine SM_ Tryz.func190 (by kernel_rfl) rfl (Nat.le_of_ble_eq_true rfl) (Nat.le_refl 1) ?_
 show avc Tryz.prog SP _ _ _ _ _ _
 dsimp only [avc, startS, Array.toList, Tryz.f190]
 have hW18 : Av.Mk 17 [0,1,3,7,15,31,63,127,255,511,63,1087,3135,7231,15423,32767,65535] := ⟨⟩
 have hW19 : Av.Mk 14 [0,1,3,7,0,16,48,112,255,511,1023,1023,2047,8191] := ⟨⟩
 have hW20 : Av.Mk 18 [0,1,3,7,0,16,48,112,255,511,1023,2047,4095,4095,4095,8191,49151,131071] := ⟨⟩
 exact Av.W
theorem step_markr (L : List (List UInt8)) (g : Nat) (at_ : Int) (k : Nat) (gs : List AV) (fz : Bool) (m : Nat) (e : Int) (h0 : 0 ≤ at_) (h1 : at_ < L.length) (he : e ≠ 0) (hM : SP 66 [U g, Z at_] (.tup [U m, Z e])) :
  SM 190 [.ptr 0 0] [rdB L g at_ (.sl 1 k) false, rowTT gs fz] [.ptr 0 0] (B false) [rdB L g at_ (.sl 1 k) false, rowTT gs fz] := by
 refine SM_ Tryz.func190 (by kernel_rfl) rfl (Nat.le_of_ble_eq_true rfl) (Nat.le_refl 1) ?_
 show avc Tryz.prog SP _ _ _ _ _ _
 dsimp only [avc, startS, Array.toList, Tryz.f190]
 have hW21 : Av.Mk 17 [0,1,3,7,15,31,63,127,255,511,63,1087,3135,7231,15423,32767,65535] := ⟨⟩
 have hW22 : Av.Mk 14 [0,1,3,7,0,16,48,112,255,511,1023,1023,2047,8191] := ⟨⟩
 have hW23 : Av.Mk 18 [0,1,3,7,0,16,48,112,255,511,1023,2047,4095,4095,4095,8191,49151,131071] := ⟨⟩
 exact Av.W
theorem step_openr (L : List (List UInt8)) (g : Nat) (at_ : Int) (k : Nat) (gs : List AV) (fz : Bool) (m a : Nat) (s p : List UInt8) (e : Int) (h0 : 0 ≤ at_) (h1 : at_ < L.length) (he : e ≠ 0 ∨ a ≠ m) (hM : SP 66 [U g, Z at_] (.tup [U m, Z 0])) (hat : (L.map T)[mulS at_.toNat (sizeT Tryz.prog 9)]? = some (T s)) (hO : SP 73 [T s] (.tup [U a, T p, Z e])) :
  SM 190 [.ptr 0 0] [rdB L g at_ (.sl 1 k) false, rowTT gs fz] [.ptr 0 0] (B false) [rdB L g at_ (.sl 1 k) false, rowTT gs fz] := by
 refine SM_ Tryz.func190 (by kernel_rfl) rfl (Nat.le_of_ble_eq_true rfl) (Nat.le_refl 1) ?_
 show avc Tryz.prog SP _ _ _ _ _ _
 dsimp only [avc, startS, Array.toList, Tryz.f190]
 have hW24 : Av.Mk 17 [0,1,3,7,15,31,63,127,255,511,63,1087,3135,7231,15423,32767,65535] := ⟨⟩
 have hW25 : Av.Mk 14 [0,1,3,7,0,16,48,112,255,511,1023,1023,2047,8191] := ⟨⟩
 have hW26 : Av.Mk 18 [0,1,3,7,0,16,48,112,255,511,1023,2047,4095,4095,4095,8191,49151,131071] := ⟨⟩
 exact Av.W
theorem step_yesn (L : List (List UInt8)) (g : Nat) (at_ : Int) (pu : Bool) (m : Nat) (s p : List UInt8) (h0 : 0 ≤ at_) (h1 : at_ < L.length) (h2 : at_ < 1000000000) (hM : SP 66 [U g, Z at_] (.tup [U m, Z 0])) (hat : (L.map T)[mulS at_.toNat (sizeT Tryz.prog 9)]? = some (T s)) (hO : SP 73 [T s] (.tup [U m, T p, Z 0])) :
  SM 190 [.ptr 0 0] [rdB L g at_ nilA pu] [.ptr 0 0] (B true) [rdB L g (at_ + 1) (.sl 1 1) false, rowTT [T p] false] := by
 cases pu
 ·refine SM_ Tryz.func190 (by kernel_rfl) rfl (Nat.le_of_ble_eq_true rfl) (Nat.le_refl 1) ?_ -- G
  have hWz : Av.FzF := ⟨⟩
  have hW27 : Av.Mk 17 [0,1,3,7,15,31,63,127,255,511,63,1087,3135,7231,15423,32767,65535] := ⟨⟩
  have hW28 : Av.Mk 14 [0,1,3,7,0,16,48,112,255,511,1023,1023,2047,8191] := ⟨⟩
  have hW29 : Av.Mk 18 [0,1,3,7,0,16,48,112,255,511,1023,2047,4095,4095,4095,8191,49151,131071] := ⟨⟩
  refine Av.Wk ?_
  refine And.intro ⟨room_s (by omega), by rw [hs1']; rfl, one_T _⟩ ?_
  have hW30 : Av.Mk 17 [0,1,3,7,15,31,63,127,255,511,63,1087,3135,7231,15423,32767,65535] := ⟨⟩
  have hW31 : Av.Mk 14 [0,1,3,7,0,16,48,112,255,511,1023,1023,2047,8191] := ⟨⟩
  have hW32 : Av.Mk 18 [0,1,3,7,0,16,48,112,255,511,1023,2047,4095,4095,4095,8191,49151,131071] := ⟨⟩
  exact Av.W
 ·refine SM_ Tryz.func190 (by kernel_rfl) rfl (Nat.le_of_ble_eq_true rfl) (Nat.le_refl 1) ?_ -- G
  have hWz : Av.FzF := ⟨⟩
  have hW33 : Av.Mk 17 [0,1,3,7,15,31,63,127,255,511,63,1087,3135,7231,15423,32767,65535] := ⟨⟩
  have hW34 : Av.Mk 14 [0,1,3,7,0,16,48,112,255,511,1023,1023,2047,8191] := ⟨⟩
  have hW35 : Av.Mk 18 [0,1,3,7,0,16,48,112,255,511,1023,2047,4095,4095,4095,8191,49151,131071] := ⟨⟩
  refine Av.Wk ?_
  refine And.intro ⟨room_s (by omega), by rw [hs1']; rfl, one_T _⟩ ?_
  have hW36 : Av.Mk 17 [0,1,3,7,15,31,63,127,255,511,63,1087,3135,7231,15423,32767,65535] := ⟨⟩
  have hW37 : Av.Mk 14 [0,1,3,7,0,16,48,112,255,511,1023,1023,2047,8191] := ⟨⟩
  have hW38 : Av.Mk 18 [0,1,3,7,0,16,48,112,255,511,1023,2047,4095,4095,4095,8191,49151,131071] := ⟨⟩
  exact Av.W
theorem step_yesr (L : List (List UInt8)) (g : Nat) (at_ : Int) (k : Nat) (gs : List AV) (fz : Bool) (hk : k ≤ 1000000000) (hgl : gs.length = k) (m : Nat) (s p : List UInt8) (h0 : 0 ≤ at_) (h1 : at_ < L.length) (h2 : at_ < 1000000000) (hM : SP 66 [U g, Z at_] (.tup [U m, Z 0])) (hat : (L.map T)[mulS at_.toNat (sizeT Tryz.prog 9)]? = some (T s)) (hO : SP 73 [T s] (.tup [U m, T p, Z 0])) :
  SM 190 [.ptr 0 0] [rdB L g at_ (.sl 1 k) false, rowTT gs fz] [.ptr 0 0] (B true) [rdB L g (at_ + 1) (.sl 1 (k + 1)) false, rowTT (gs ++ [T p]) fz] := by
 refine SM_ Tryz.func190 (by kernel_rfl) rfl (Nat.le_of_ble_eq_true rfl) (Nat.le_refl 1) ?_
 show avc Tryz.prog SP _ _ _ _ _ _
 dsimp only [avc, startS, Array.toList, Tryz.f190]
 have hWz : Av.FzF := ⟨⟩
 have hW39 : Av.Mk 17 [0,1,3,7,15,31,63,127,255,511,63,1087,3135,7231,15423,32767,65535] := ⟨⟩
 have hW40 : Av.Mk 14 [0,1,3,7,0,16,48,112,255,511,1023,1023,2047,8191] := ⟨⟩
 have hW41 : Av.Mk 18 [0,1,3,7,0,16,48,112,255,511,1023,2047,4095,4095,4095,8191,49151,131071] := ⟨⟩
 refine Av.Wk ?_
 refine And.intro ⟨room_s (by omega), by rw [hs1', hgl, Nat.mul_one], by rw [hs1']; rfl, one_T _⟩ ?_
 have hW42 : Av.Mk 17 [0,1,3,7,15,31,63,127,255,511,63,1087,3135,7231,15423,32767,65535] := ⟨⟩
 have hW43 : Av.Mk 14 [0,1,3,7,0,16,48,112,255,511,1023,1023,2047,8191] := ⟨⟩
 have hW44 : Av.Mk 18 [0,1,3,7,0,16,48,112,255,511,1023,2047,4095,4095,4095,8191,49151,131071] := ⟨⟩
 exact Av.W
end Go.Proofs.YtbaedepmogkkeaaGreat.Av
namespace Go.Proofs.YtbaedepmogkkeaaGreat.Av
set_option maxHeartbeats 1000000
open Go Go.RowKit
set_option linter.unusedVariables false
set_option linter.unusedSimpArgs false
set_option maxRecDepth 100000
theorem size_no {n : Int} (h : n < 1 ∨ 1400 < n) : SP 107 [Z n] (Z 0) := by
 refine S_ Tryz.func107 (by kernel_rfl) rfl (Nat.le_of_ble_eq_true rfl) ?_
 show avc Tryz.prog SP _ _ _ _ _ _
 dsimp only [avc, startS, Array.toList, Tryz.f107]
 exact Av.W
theorem size_walk {n k : Int} (h : 1 ≤ n) (h2 : n ≤ 1400) (hc : SP 129 [Z (2 + n)] (Z k)) : SP 107 [Z n] (Z k) := by
 refine S_ Tryz.func107 (by kernel_rfl) rfl (Nat.le_of_ble_eq_true rfl) ?_
 show avc Tryz.prog SP _ _ _ _ _ _
 dsimp only [avc, startS, Array.toList, Tryz.f107]
 exact Av.W
theorem rsize_no {n : Int} (h : n < 1 ∨ 1400 < n) : SP 112 [Z n] (Z 0) := by
 refine S_ Tryz.func112 (by kernel_rfl) rfl (Nat.le_of_ble_eq_true rfl) ?_
 show avc Tryz.prog SP _ _ _ _ _ _
 dsimp only [avc, startS, Array.toList, Tryz.f112]
 exact Av.W
theorem rsize_walk {n k : Int} (h : 1 ≤ n) (h2 : n ≤ 1400) (hc : SP 69 [Z (n + 2)] (Z k)) : SP 112 [Z n] (Z k) := by
 refine S_ Tryz.func112 (by kernel_rfl) rfl (Nat.le_of_ble_eq_true rfl) ?_
 show avc Tryz.prog SP _ _ _ _ _ _
 dsimp only [avc, startS, Array.toList, Tryz.f112]
 exact Av.W
theorem text_0n (L : List (List UInt8)) (g : Nat) (at_ : Int) (pu : Bool) (h0 : SM 190 [.ptr 0 0] [rdB L g at_ nilA pu] [.ptr 0 0] (B false) [rdB L g at_ nilA pu]) :
  SM 141 [.ptr 0 0] [rdB L g at_ nilA pu] [.ptr 0 0] (.tup [T [], B false]) [rdB L g at_ nilA pu] := by
 cases pu
 ·refine SM_ Tryz.func141 (by kernel_rfl) rfl (Nat.le_of_ble_eq_true rfl) (Nat.le_refl 1) ?_ -- G
  exact Av.W
 ·refine SM_ Tryz.func141 (by kernel_rfl) rfl (Nat.le_of_ble_eq_true rfl) (Nat.le_refl 1) ?_ -- G
  exact Av.W
theorem text_1n (L : List (List UInt8)) (g : Nat) (at_ : Int) (pu : Bool) (p0 : List UInt8) (n : Nat) (q : Int) (h0 : SM 190 [.ptr 0 0] [rdB L g at_ nilA pu] [.ptr 0 0] (B true) [rdB L g (at_ + ((1 : Nat) : Int)) (.sl 1 1) false, rowTT [T p0] false]) (hat : ([T p0] : List AV)[mulS (0 : Int).toNat (sizeT Tryz.prog 9)]? = some (T p0)) (hN : SP 126 [scM p0 0 0, Z 2] (numM n p0 q 0)) (hn : n < 65536) (hS : SP 107 [Z n] (Z 0)) :
  SM 141 [.ptr 0 0] [rdB L g at_ nilA pu] [.ptr 0 0] (.tup [T [], B false]) [rdB L g (at_ + ((1 : Nat) : Int)) (.sl 1 1) false, rowTT [T p0] false] := by
 cases pu
 ·refine SM_ Tryz.func141 (by kernel_rfl) rfl (Nat.le_of_ble_eq_true rfl) (Nat.le_refl 1) ?_ -- G
  exact Av.W
 ·refine SM_ Tryz.func141 (by kernel_rfl) rfl (Nat.le_of_ble_eq_true rfl) (Nat.le_refl 1) ?_ -- G
  exact Av.W
theorem text_2n (L : List (List UInt8)) (g : Nat) (at_ : Int) (pu : Bool) (p0 : List UInt8) (n : Nat) (q : Int) (h0 : SM 190 [.ptr 0 0] [rdB L g at_ nilA pu] [.ptr 0 0] (B true) [rdB L g (at_ + ((1 : Nat) : Int)) (.sl 1 1) false, rowTT [T p0] false]) (hat : ([T p0] : List AV)[mulS (0 : Int).toNat (sizeT Tryz.prog 9)]? = some (T p0)) (hN : SP 126 [scM p0 0 0, Z 2] (numM n p0 q 0)) (hn : n < 65536) (size stop : Nat) (ps : List (List UInt8)) (hps : ps.take 1 = [p0]) (hsz : 1 ≤ size) (hsz2 : size ≤ 100) (hS : SP 107 [Z n] (Z size)) (hstep : ∀ j : Nat, j + 1 < size → j + 1 < stop → SM 190 [.ptr 0 0] [rdB L g (at_ + ((j + 1 : Nat) : Int)) (.sl 1 (j + 1)) false, rowTT ((ps.take (j + 1)).map T) false] [.ptr 0 0] (B true) [rdB L g (at_ + ((j + 1 + 1 : Nat) : Int)) (.sl 1 (j + 1 + 1)) false, rowTT ((ps.take (j + 1 + 1)).map T) false]) (hst : 1 ≤ stop) (hst2 : stop < size) (hno : SM 190 [.ptr 0 0] [rdB L g (at_ + (stop : Int)) (.sl 1 stop) false, rowTT ((ps.take stop).map T) false] [.ptr 0 0] (B false) [rdB L g (at_ + (stop : Int)) (.sl 1 stop) false, rowTT ((ps.take stop).map T) false]) :
  SM 141 [.ptr 0 0] [rdB L g at_ nilA pu] [.ptr 0 0] (.tup [T [], B false]) [rdB L g (at_ + (stop : Int)) (.sl 1 stop) false, rowTT ((ps.take stop).map T) false] := by
 cases pu
 ·refine SM_ Tryz.func141 (by kernel_rfl) rfl (Nat.le_of_ble_eq_true rfl) (Nat.le_refl 1) ?_ -- G
  refine Av.Wk ?_
  refine ⟨[33, 32, 0, 4], [], fun vs bl => ∃ j : Nat, j + 1 ≤ size ∧ j + 1 ≤ stop ∧ (vs = [Z j, Z ((size : Int) - 1), .ptr 0 0, U n] ∧ bl = [rdB L g (at_ + ((j + 1 : Nat) : Int)) (.sl 1 (j + 1)) false, rowTT ((ps.take (j + 1)).map T) false]), fun vs bl => match vs with | [.ex (.int _ j), _, _, _] => size - j.toNat | _ => 0, ?_, ?_⟩
  ·refine ⟨0, by omega, by omega, rfl, ?_⟩
   rw [hps]
   rfl
  rintro vs bl ⟨j, hj, hj2, rfl, rfl⟩
  by_cases hlt : j + 1 < stop
  ·have hs := hstep j (by omega) hlt
   refine Av.Wk ?_
   exact ⟨⟨j + 1, by omega, by omega, rfl, rfl⟩, (by simp only [Int.toNat_natCast]; show size - ((j : Int) + 1).toNat < _; omega)⟩
  ·obtain rfl : j + 1 = stop := by omega
   exact Av.W
 ·refine SM_ Tryz.func141 (by kernel_rfl) rfl (Nat.le_of_ble_eq_true rfl) (Nat.le_refl 1) ?_ -- G
  refine Av.Wk ?_
  refine ⟨[33, 32, 0, 4], [], fun vs bl => ∃ j : Nat, j + 1 ≤ size ∧ j + 1 ≤ stop ∧ (vs = [Z j, Z ((size : Int) - 1), .ptr 0 0, U n] ∧ bl = [rdB L g (at_ + ((j + 1 : Nat) : Int)) (.sl 1 (j + 1)) false, rowTT ((ps.take (j + 1)).map T) false]), fun vs bl => match vs with | [.ex (.int _ j), _, _, _] => size - j.toNat | _ => 0, ?_, ?_⟩
  ·refine ⟨0, by omega, by omega, rfl, ?_⟩
   rw [hps]
   rfl
  rintro vs bl ⟨j, hj, hj2, rfl, rfl⟩
  by_cases hlt : j + 1 < stop
  ·have hs := hstep j (by omega) hlt
   refine Av.Wk ?_
   exact ⟨⟨j + 1, by omega, by omega, rfl, rfl⟩, (by simp only [Int.toNat_natCast]; show size - ((j : Int) + 1).toNat < _; omega)⟩
  ·obtain rfl : j + 1 = stop := by omega
   exact Av.W
theorem text_3n (L : List (List UInt8)) (g : Nat) (at_ : Int) (pu : Bool) (p0 all txt : List UInt8) (n : Nat) (q : Int) (h0 : SM 190 [.ptr 0 0] [rdB L g at_ nilA pu] [.ptr 0 0] (B true) [rdB L g (at_ + ((1 : Nat) : Int)) (.sl 1 1) false, rowTT [T p0] false]) (hat : ([T p0] : List AV)[mulS (0 : Int).toNat (sizeT Tryz.prog 9)]? = some (T p0)) (hN : SP 126 [scM p0 0 0, Z 2] (numM n p0 q 0)) (hn : n < 65536) (size stop : Nat) (ps : List (List UInt8)) (hps : ps.take 1 = [p0]) (hsz : 1 ≤ size) (hsz2 : size ≤ 100) (hS : SP 107 [Z n] (Z size)) (hstep : ∀ j : Nat, j + 1 < size → j + 1 < stop → SM 190 [.ptr 0 0] [rdB L g (at_ + ((j + 1 : Nat) : Int)) (.sl 1 (j + 1)) false, rowTT ((ps.take (j + 1)).map T) false] [.ptr 0 0] (B true) [rdB L g (at_ + ((j + 1 + 1 : Nat) : Int)) (.sl 1 (j + 1 + 1)) false, rowTT ((ps.take (j + 1 + 1)).map T) false]) (hst : stop = size) (hpl : ps.take size = ps) (hG : SP 74 [.vs size (ps.map T), Z (2 + (n : Int))] (.tup [T all, Z 0])) (hall : 2 ≤ (bs all).size) (htxt : (bs all).extract (2 : Int).toNat ((bs all).size : Int).toNat = bs txt) :
  SM 141 [.ptr 0 0] [rdB L g at_ nilA pu] [.ptr 0 0] (.tup [T txt, B true]) [rdB L g (at_ + (size : Int)) (.sl 1 size) false, rowTT (ps.map T) true] := by
 cases pu
 ·refine SM_ Tryz.func141 (by kernel_rfl) rfl (Nat.le_of_ble_eq_true rfl) (Nat.le_refl 1) ?_ -- G
  refine Av.Wk ?_
  refine ⟨[33, 32, 0, 4], [], fun vs bl => ∃ j : Nat, j + 1 ≤ size ∧ j + 1 ≤ stop ∧ (vs = [Z j, Z ((size : Int) - 1), .ptr 0 0, U n] ∧ bl = [rdB L g (at_ + ((j + 1 : Nat) : Int)) (.sl 1 (j + 1)) false, rowTT ((ps.take (j + 1)).map T) false]), fun vs bl => match vs with | [.ex (.int _ j), _, _, _] => size - j.toNat | _ => 0, ?_, ?_⟩
  ·refine ⟨0, by omega, by omega, rfl, ?_⟩
   rw [hps]
   rfl
  rintro vs bl ⟨j, hj, hj2, rfl, rfl⟩
  by_cases hlt : j + 1 < size
  ·have hs := hstep j hlt (by omega)
   refine Av.Wk ?_
   exact ⟨⟨j + 1, by omega, by omega, rfl, rfl⟩, (by simp only [Int.toNat_natCast]; show size - ((j : Int) + 1).toNat < _; omega)⟩
  ·obtain rfl : j + 1 = size := by omega
   rw [hpl]
   refine Av.Wk ?_
   exact ⟨congrArg (fun s => AV.tup [AV.ex (.string s), B true]) htxt, rfl⟩
 ·refine SM_ Tryz.func141 (by kernel_rfl) rfl (Nat.le_of_ble_eq_true rfl) (Nat.le_refl 1) ?_ -- G
  refine Av.Wk ?_
  refine ⟨[33, 32, 0, 4], [], fun vs bl => ∃ j : Nat, j + 1 ≤ size ∧ j + 1 ≤ stop ∧ (vs = [Z j, Z ((size : Int) - 1), .ptr 0 0, U n] ∧ bl = [rdB L g (at_ + ((j + 1 : Nat) : Int)) (.sl 1 (j + 1)) false, rowTT ((ps.take (j + 1)).map T) false]), fun vs bl => match vs with | [.ex (.int _ j), _, _, _] => size - j.toNat | _ => 0, ?_, ?_⟩
  ·refine ⟨0, by omega, by omega, rfl, ?_⟩
   rw [hps]
   rfl
  rintro vs bl ⟨j, hj, hj2, rfl, rfl⟩
  by_cases hlt : j + 1 < size
  ·have hs := hstep j hlt (by omega)
   refine Av.Wk ?_
   exact ⟨⟨j + 1, by omega, by omega, rfl, rfl⟩, (by simp only [Int.toNat_natCast]; show size - ((j : Int) + 1).toNat < _; omega)⟩
  ·obtain rfl : j + 1 = size := by omega
   rw [hpl]
   refine Av.Wk ?_
   exact ⟨congrArg (fun s => AV.tup [AV.ex (.string s), B true]) htxt, rfl⟩
theorem text_0r (L : List (List UInt8)) (g : Nat) (at_ : Int) (k : Nat) (gs : List AV) (fz : Bool) (h0 : SM 190 [.ptr 0 0] [rdB L g at_ nilA false] [.ptr 0 0] (B false) [rdB L g at_ nilA false]) :
  SM 141 [.ptr 0 0] [rdB L g at_ (.sl 1 k) false, rowTT gs fz] [.ptr 0 0] (.tup [T [], B false]) [rdB L g at_ nilA false] := by
 refine SM_ Tryz.func141 (by kernel_rfl) rfl (Nat.le_of_ble_eq_true rfl) (Nat.le_refl 1) ?_
 show avc Tryz.prog SP _ _ _ _ _ _
 dsimp only [avc, startS, Array.toList, Tryz.f141]
 exact Av.W
theorem text_1r (L : List (List UInt8)) (g : Nat) (at_ : Int) (k : Nat) (gs : List AV) (fz : Bool) (p0 : List UInt8) (n : Nat) (q : Int) (h0 : SM 190 [.ptr 0 0] [rdB L g at_ nilA false] [.ptr 0 0] (B true) [rdB L g (at_ + ((1 : Nat) : Int)) (.sl 1 1) false, rowTT [T p0] false]) (hat : ([T p0] : List AV)[mulS (0 : Int).toNat (sizeT Tryz.prog 9)]? = some (T p0)) (hN : SP 126 [scM p0 0 0, Z 2] (numM n p0 q 0)) (hn : n < 65536) (hS : SP 107 [Z n] (Z 0)) :
  SM 141 [.ptr 0 0] [rdB L g at_ (.sl 1 k) false, rowTT gs fz] [.ptr 0 0] (.tup [T [], B false]) [rdB L g (at_ + ((1 : Nat) : Int)) (.sl 1 1) false, rowTT [T p0] false] := by
 refine SM_ Tryz.func141 (by kernel_rfl) rfl (Nat.le_of_ble_eq_true rfl) (Nat.le_refl 1) ?_
 show avc Tryz.prog SP _ _ _ _ _ _
 dsimp only [avc, startS, Array.toList, Tryz.f141]
 exact Av.W
theorem text_2r (L : List (List UInt8)) (g : Nat) (at_ : Int) (k : Nat) (gs : List AV) (fz : Bool) (p0 : List UInt8) (n : Nat) (q : Int) (h0 : SM 190 [.ptr 0 0] [rdB L g at_ nilA false] [.ptr 0 0] (B true) [rdB L g (at_ + ((1 : Nat) : Int)) (.sl 1 1) false, rowTT [T p0] false]) (hat : ([T p0] : List AV)[mulS (0 : Int).toNat (sizeT Tryz.prog 9)]? = some (T p0)) (hN : SP 126 [scM p0 0 0, Z 2] (numM n p0 q 0)) (hn : n < 65536) (size stop : Nat) (ps : List (List UInt8)) (hps : ps.take 1 = [p0]) (hsz : 1 ≤ size) (hsz2 : size ≤ 100) (hS : SP 107 [Z n] (Z size)) (hstep : ∀ j : Nat, j + 1 < size → j + 1 < stop → SM 190 [.ptr 0 0] [rdB L g (at_ + ((j + 1 : Nat) : Int)) (.sl 1 (j + 1)) false, rowTT ((ps.take (j + 1)).map T) false] [.ptr 0 0] (B true) [rdB L g (at_ + ((j + 1 + 1 : Nat) : Int)) (.sl 1 (j + 1 + 1)) false, rowTT ((ps.take (j + 1 + 1)).map T) false]) (hst : 1 ≤ stop) (hst2 : stop < size) (hno : SM 190 [.ptr 0 0] [rdB L g (at_ + (stop : Int)) (.sl 1 stop) false, rowTT ((ps.take stop).map T) false] [.ptr 0 0] (B false) [rdB L g (at_ + (stop : Int)) (.sl 1 stop) false, rowTT ((ps.take stop).map T) false]) :
  SM 141 [.ptr 0 0] [rdB L g at_ (.sl 1 k) false, rowTT gs fz] [.ptr 0 0] (.tup [T [], B false]) [rdB L g (at_ + (stop : Int)) (.sl 1 stop) false, rowTT ((ps.take stop).map T) false] := by
 refine SM_ Tryz.func141 (by kernel_rfl) rfl (Nat.le_of_ble_eq_true rfl) (Nat.le_refl 1) ?_
 show avc Tryz.prog SP _ _ _ _ _ _
 dsimp only [avc, startS, Array.toList, Tryz.f141]
 refine Av.Wk ?_
 refine ⟨[33, 32, 0, 4], [], fun vs bl => ∃ j : Nat, j + 1 ≤ size ∧ j + 1 ≤ stop ∧ (vs = [Z j, Z ((size : Int) - 1), .ptr 0 0, U n] ∧ bl = [rdB L g (at_ + ((j + 1 : Nat) : Int)) (.sl 1 (j + 1)) false, rowTT ((ps.take (j + 1)).map T) false]), fun vs bl => match vs with | [.ex (.int _ j), _, _, _] => size - j.toNat | _ => 0, ?_, ?_⟩
 ·refine ⟨0, by omega, by omega, rfl, ?_⟩
  rw [hps]
  rfl
 rintro vs bl ⟨j, hj, hj2, rfl, rfl⟩
 by_cases hlt : j + 1 < stop
 ·have hs := hstep j (by omega) hlt
  refine Av.Wk ?_
  exact ⟨⟨j + 1, by omega, by omega, rfl, rfl⟩, (by simp only [Int.toNat_natCast]; show size - ((j : Int) + 1).toNat < _; omega)⟩
 ·obtain rfl : j + 1 = stop := by omega
  exact Av.W
theorem text_3r (L : List (List UInt8)) (g : Nat) (at_ : Int) (k : Nat) (gs : List AV) (fz : Bool) (p0 all txt : List UInt8) (n : Nat) (q : Int) (h0 : SM 190 [.ptr 0 0] [rdB L g at_ nilA false] [.ptr 0 0] (B true) [rdB L g (at_ + ((1 : Nat) : Int)) (.sl 1 1) false, rowTT [T p0] false]) (hat : ([T p0] : List AV)[mulS (0 : Int).toNat (sizeT Tryz.prog 9)]? = some (T p0)) (hN : SP 126 [scM p0 0 0, Z 2] (numM n p0 q 0)) (hn : n < 65536) (size stop : Nat) (ps : List (List UInt8)) (hps : ps.take 1 = [p0]) (hsz : 1 ≤ size) (hsz2 : size ≤ 100) (hS : SP 107 [Z n] (Z size)) (hstep : ∀ j : Nat, j + 1 < size → j + 1 < stop → SM 190 [.ptr 0 0] [rdB L g (at_ + ((j + 1 : Nat) : Int)) (.sl 1 (j + 1)) false, rowTT ((ps.take (j + 1)).map T) false] [.ptr 0 0] (B true) [rdB L g (at_ + ((j + 1 + 1 : Nat) : Int)) (.sl 1 (j + 1 + 1)) false, rowTT ((ps.take (j + 1 + 1)).map T) false]) (hst : stop = size) (hpl : ps.take size = ps) (hG : SP 74 [.vs size (ps.map T), Z (2 + (n : Int))] (.tup [T all, Z 0])) (hall : 2 ≤ (bs all).size) (htxt : (bs all).extract (2 : Int).toNat ((bs all).size : Int).toNat = bs txt) :
  SM 141 [.ptr 0 0] [rdB L g at_ (.sl 1 k) false, rowTT gs fz] [.ptr 0 0] (.tup [T txt, B true]) [rdB L g (at_ + (size : Int)) (.sl 1 size) false, rowTT (ps.map T) true] := by
 refine SM_ Tryz.func141 (by kernel_rfl) rfl (Nat.le_of_ble_eq_true rfl) (Nat.le_refl 1) ?_
 show avc Tryz.prog SP _ _ _ _ _ _
 dsimp only [avc, startS, Array.toList, Tryz.f141]
 refine Av.Wk ?_
 refine ⟨[33, 32, 0, 4], [], fun vs bl => ∃ j : Nat, j + 1 ≤ size ∧ j + 1 ≤ stop ∧ (vs = [Z j, Z ((size : Int) - 1), .ptr 0 0, U n] ∧ bl = [rdB L g (at_ + ((j + 1 : Nat) : Int)) (.sl 1 (j + 1)) false, rowTT ((ps.take (j + 1)).map T) false]), fun vs bl => match vs with | [.ex (.int _ j), _, _, _] => size - j.toNat | _ => 0, ?_, ?_⟩
 ·refine ⟨0, by omega, by omega, rfl, ?_⟩
  rw [hps]
  rfl
 rintro vs bl ⟨j, hj, hj2, rfl, rfl⟩
 by_cases hlt : j + 1 < size
 ·have hs := hstep j hlt (by omega)
  refine Av.Wk ?_
  exact ⟨⟨j + 1, by omega, by omega, rfl, rfl⟩, (by simp only [Int.toNat_natCast]; show size - ((j : Int) + 1).toNat < _; omega)⟩
 ·obtain rfl : j + 1 = size := by omega
  rw [hpl]
  refine Av.Wk ?_
  exact ⟨congrArg (fun s => AV.tup [AV.ex (.string s), B true]) htxt, rfl⟩
end Go.Proofs.YtbaedepmogkkeaaGreat.Av
namespace Go.Proofs.YtbaedepmogkkeaaGreat.Av
open Go Go.RowKit
set_option linter.unusedVariables false
set_option linter.unusedSimpArgs false
set_option maxRecDepth 100000
instance okM_dec (g : Nat) (p : Int) : Decidable (OkM g p) := by unfold OkM; infer_instance
def mkT (g : Nat) (p : Int) : Nat := g * 1048576 + p.toNat + 1
theorem mark_mkT {g : Nat} {p : Int} (h : OkM g p) : SP 66 [U g, Z p] (.tup [U (mkT g p), Z 0]) := by
 have := mark_yes h
 have h : 1 ≤ g ∧ g ≤ 1099511627776 ∧ 0 ≤ p ∧ p < 1048575 := h
 have e : ((g : Int) * 1048576 + p + 1) = ((mkT g p : Nat) : Int) := by unfold mkT; omega
 rw [e] at this
 exact this
def payO (L : List (List UInt8)) (g : Nat) (at_ : Int) : Option (List UInt8) := match L[at_.toNat]? with
 | some s => if 0 ≤ at_ ∧ OkM g at_ ∧ (opn s).2.2 = 0 ∧ (opn s).1 = mkT g at_ then some (opn s).2.1 else none
 | none => none
theorem payO_some {L : List (List UInt8)} {g : Nat} {at_ : Int} {p : List UInt8} (h : payO L g at_ = some p) : ∃ s, L[at_.toNat]? = some s ∧ 0 ≤ at_ ∧ at_ < L.length ∧ OkM g at_ ∧ opn s = (mkT g at_, p, 0) := by
 unfold payO at h
 split at h
 ·rename_i s hs
  split at h
  ·rename_i hc
   injection h with h
   have hl := (List.getElem?_eq_some_iff.1 hs).1
   refine ⟨s, hs, hc.1, by omega, hc.2.1, ?_⟩
   rw [← hc.2.2.2, ← h, ← hc.2.2.1]
  ·cases h
 ·cases h
theorem at_T {L : List (List UInt8)} {at_ : Int} {s : List UInt8} (h : L[at_.toNat]? = some s) : (L.map T)[mulS at_.toNat (sizeT Tryz.prog 9)]? = some (T s) := by
 rw [hs1', mulS_eq, Nat.mul_one, List.getElem?_map, h]; rfl
section
variable {L : List (List UInt8)} {g : Nat} {at_ : Int}
theorem step_n {p : List UInt8} (pu : Bool) (hL : L.length ≤ 1000000) (h : payO L g at_ = some p) :
  SM 190 [.ptr 0 0] [rdB L g at_ nilA pu] [.ptr 0 0] (B true) [rdB L g (at_ + ((1 : Nat) : Int)) (.sl 1 1) false, rowTT [T p] false] := by
 obtain ⟨s, h1, h2, h3, h4, h5⟩ := payO_some h
 have hO := open_ok s
 rw [h5] at hO
 exact step_yesn L g at_ pu (mkT g at_) s p h2 h3 (by omega) (mark_mkT h4) (at_T h1) hO
theorem step_r {p : List UInt8} (k : Nat) (gs : List AV) (hgl : gs.length = k) (hk : k ≤ 1000000) (hL : L.length ≤ 1000000) (h : payO L g at_ = some p) :
  SM 190 [.ptr 0 0] [rdB L g at_ (.sl 1 k) false, rowTT gs false] [.ptr 0 0] (B true) [rdB L g (at_ + 1) (.sl 1 (k + 1)) false, rowTT (gs ++ [T p]) false] := by
 obtain ⟨s, h1, h2, h3, h4, h5⟩ := payO_some h
 have hO := open_ok s
 rw [h5] at hO
 exact step_yesr L g at_ k gs false (by omega) hgl (mkT g at_) s p h2 h3 (by omega) (mark_mkT h4) (at_T h1) hO
theorem payO_none (h : payO L g at_ = none) : (at_ < 0 ∨ (L.length : Int) ≤ at_) ∨ (0 ≤ at_ ∧ at_ < L.length) ∧ (¬ OkM g at_ ∨ OkM g at_ ∧ ∃ s, L[at_.toNat]? = some s ∧ ((opn s).2.2 ≠ 0 ∨ (opn s).1 ≠ mkT g at_)) := by
 by_cases h1 : at_ < 0 ∨ (L.length : Int) ≤ at_
 ·exact .inl h1
 ·have h2 : 0 ≤ at_ ∧ at_ < L.length := by omega
  refine .inr ⟨h2, ?_⟩
  by_cases h3 : OkM g at_
  ·refine .inr ⟨h3, ?_⟩
   have hl : at_.toNat < L.length := by omega
   refine ⟨L[at_.toNat], List.getElem?_eq_getElem hl, ?_⟩
   unfold payO at h
   rw [List.getElem?_eq_getElem hl] at h
   simp only at h
   split at h
   ·cases h
   ·rename_i hc
    by_cases h4 : (opn L[at_.toNat]).2.2 = 0
    ·exact .inr fun h5 => hc ⟨h2.1, h3, h4, h5⟩
    ·exact .inl h4
  ·exact .inl h3
theorem step_n_no (pu : Bool) (h : payO L g at_ = none) : SM 190 [.ptr 0 0] [rdB L g at_ nilA pu] [.ptr 0 0] (B false) [rdB L g at_ nilA pu] := by
 rcases payO_none h with h1 | ⟨⟨h1, h2⟩, h3 | ⟨h3, s, h4, h5⟩⟩
 ·exact step_outn L g at_ pu h1
 ·exact step_markn L g at_ pu 0 2 h1 h2 (by decide) (mark_no h3)
 ·exact step_openn L g at_ pu _ _ s _ _ h1 h2 h5 (mark_mkT h3) (at_T h4) (open_ok s)
theorem step_r_no (k : Nat) (gs : List AV) (h : payO L g at_ = none) : SM 190 [.ptr 0 0] [rdB L g at_ (.sl 1 k) false, rowTT gs false] [.ptr 0 0] (B false) [rdB L g at_ (.sl 1 k) false, rowTT gs false] := by
 rcases payO_none h with h1 | ⟨⟨h1, h2⟩, h3 | ⟨h3, s, h4, h5⟩⟩
 ·exact step_outr L g at_ k gs false h1
 ·exact step_markr L g at_ k gs false 0 2 h1 h2 (by decide) (mark_no h3)
 ·exact step_openr L g at_ k gs false _ _ s _ _ h1 h2 h5 (mark_mkT h3) (at_T h4) (open_ok s)
end
def paysO (L : List (List UInt8)) (g : Nat) : Int → Nat → List (List UInt8)
 | _, 0 => []
 | at_, k + 1 => match payO L g at_ with
  | some p => p :: paysO L g (at_ + 1) k
  | none => []
theorem paysO_len (L : List (List UInt8)) (g : Nat) : ∀ (k : Nat) (at_ : Int), (paysO L g at_ k).length ≤ k
 | 0, _ => by simp [paysO]
 | k + 1, at_ => by
  unfold paysO
  split
  ·have := paysO_len L g k (at_ + 1); simp; omega
  ·simp
theorem paysO_at (L : List (List UInt8)) (g : Nat) : ∀ (k : Nat) (at_ : Int) (i : Nat), i < (paysO L g at_ k).length → payO L g (at_ + (i : Int)) = (paysO L g at_ k)[i]?
 | 0, _, i, h => by simp [paysO] at h
 | k + 1, at_, i, h => by
  unfold paysO at h ⊢
  split at h
  ·rename_i p hp
   cases i with
   | zero => simp [hp]
   | succ i =>
    have := paysO_at L g k (at_ + 1) i (by simpa using h)
    rw [show at_ + ((i + 1 : Nat) : Int) = at_ + 1 + (i : Int) by omega, this]
    simp
  ·simp at h
theorem paysO_end (L : List (List UInt8)) (g : Nat) : ∀ (k : Nat) (at_ : Int), (paysO L g at_ k).length < k → payO L g (at_ + ((paysO L g at_ k).length : Int)) = none
 | 0, _, h => by simp [paysO] at h
 | k + 1, at_, h => by
  unfold paysO at h ⊢
  split
  ·rename_i p hp
   rw [hp] at h
   have := paysO_end L g k (at_ + 1) (by simpa using h)
   simp only [List.length_cons]
   rw [show at_ + (((paysO L g (at_ + 1) k).length + 1 : Nat) : Int) = at_ + 1 + ((paysO L g (at_ + 1) k).length : Int) by omega]
   exact this
  ·rename_i hp
   simpa using hp
def szT (n : Nat) : Nat := if n < 1 ∨ 1400 < n then 0 else (n + 2 + 47) / 48
theorem tpsize_ok (n : Nat) : SP 107 [Z n] (Z (szT n)) := by
 unfold szT
 split
 ·exact size_no (by omega)
 ·have hc := count_yes (n := 2 + (n : Int)) (by omega) (by omega)
  rw [show (2 + (n : Int) - 1) / 48 + 1 = (((n + 2 + 47) / 48 : Nat) : Int) by omega] at hc
  exact size_walk (by omega) (by omega) hc
theorem rtpsize_ok (n : Nat) : SP 112 [Z n] (Z (szT n)) := by
 unfold szT
 split
 ·exact rsize_no (by omega)
 ·have hc := rcount_ok ((n : Int) + 2) (by omega)
  rw [show cntP ((n : Int) + 2) = (((n + 2 + 47) / 48 : Nat) : Int) by unfold cntP; split <;> omega] at hc
  exact rsize_walk (by omega) (by omega) hc
def textO (L : List (List UInt8)) (g : Nat) (at_ : Int) : Option (List UInt8 × Nat) := match payO L g at_ with
 | none => none
 | some p0 => if szT (Quill.tell (p0.take 2)) = 0 then none else
  if (paysO L g at_ (szT (Quill.tell (p0.take 2)))).length < szT (Quill.tell (p0.take 2)) then none else
   some (((paysO L g at_ (szT (Quill.tell (p0.take 2)))).flatten.drop 2).take (Quill.tell (p0.take 2)), szT (Quill.tell (p0.take 2)))
theorem opn_lenT {s p : List UInt8} {m : Nat} (h : opn s = (m, p, 0)) : p.length = 48 := by
 unfold opn at h
 split at h
 ·cases h
 rename_i hl
 split at h
 ·cases h
 split at h
 ·cases h
 injection h with _ h
 injection h with h _
 rw [← h, List.length_take, List.length_drop]; omega
theorem payO_len {L : List (List UInt8)} {g : Nat} {at_ : Int} {p : List UInt8} (h : payO L g at_ = some p) : p.length = 48 := by
 obtain ⟨s, _, _, _, _, h5⟩ := payO_some h
 exact opn_lenT h5
theorem num2 (p : List UInt8) (h : p.length = 48) : SP 126 [scM p 0 0, Z 2] (numM (Quill.tell (p.take 2)) p 2 0) := by
 have c := scannum_snd p 0 0 2 (by omega)
 have e : Quill.Sc.num ⟨p, 0, 0⟩ 2 = (Quill.tell (p.take 2), ⟨p, 2, 0⟩) := by
  unfold Quill.Sc.num
  rw [if_neg (by simp), if_neg (by simp [Quill.Sc.stands]), if_neg (by simp; omega)]
  rfl
 rw [e] at c
 exact c
theorem tell2_lt (p : List UInt8) : Quill.tell (p.take 2) < 65536 := by
 have h1 := Quill.tell_numB (p.take 2).length (Quill.tell (p.take 2))
 rw [Quill.numB_tell] at h1
 have h2 : (p.take 2).length ≤ 2 := by rw [List.length_take]; omega
 have h3 : Quill.tell (p.take 2) < 256 ^ (p.take 2).length := by rw [h1]; exact Nat.mod_lt _ (Nat.pow_pos (by decide))
 exact Nat.lt_of_lt_of_le h3 (Nat.le_trans (Nat.pow_le_pow_right (by decide) h2) (by decide))
theorem szT_le (n : Nat) : szT n ≤ 30 := by unfold szT; split <;> omega
theorem pays_flat (L : List (List UInt8)) (g : Nat) : ∀ (k : Nat) (at_ : Int), (paysO L g at_ k).flatten.length = 48 * (paysO L g at_ k).length
 | 0, _ => by simp [paysO]
 | k + 1, at_ => by
  unfold paysO
  split
  ·rename_i p hp
   rw [List.flatten_cons, List.length_append, payO_len hp, pays_flat L g k (at_ + 1), List.length_cons]; omega
  ·simp
section
variable {L : List (List UInt8)} {g : Nat} {at_ : Int}
theorem pays_step (hL : L.length ≤ 1000000) {k j : Nat} (hk : k ≤ 100) (h : j + 1 < (paysO L g at_ k).length) :
  SM 190 [.ptr 0 0] [rdB L g (at_ + ((j + 1 : Nat) : Int)) (.sl 1 (j + 1)) false, rowTT (((paysO L g at_ k).take (j + 1)).map T) false] [.ptr 0 0] (B true) [rdB L g (at_ + ((j + 1 + 1 : Nat) : Int)) (.sl 1 (j + 1 + 1)) false, rowTT (((paysO L g at_ k).take (j + 1 + 1)).map T) false] := by
 have hp := paysO_at L g k at_ (j + 1) h
 have hle := paysO_len L g k at_
 rw [List.getElem?_eq_getElem h] at hp
 have := step_r (j + 1) (((paysO L g at_ k).take (j + 1)).map T) (by rw [List.length_map, List.length_take]; omega) (by omega) hL hp
 have e : ((paysO L g at_ k).take (j + 1 + 1)).map T = ((paysO L g at_ k).take (j + 1)).map T ++ [T (paysO L g at_ k)[j + 1]] := by
  rw [List.take_add_one (i := j + 1), List.getElem?_eq_getElem h, List.map_append]; rfl
 rw [show at_ + ((j + 1 + 1 : Nat) : Int) = at_ + ((j + 1 : Nat) : Int) + 1 by omega, e]
 exact this
theorem pays_one {k : Nat} {p0 : List UInt8} (hk : 1 ≤ k) (h : payO L g at_ = some p0) : (paysO L g at_ k).take 1 = [p0] := by
 obtain ⟨j, rfl⟩ : ∃ j, k = j + 1 := ⟨k - 1, by omega⟩
 simp [paysO, h]
theorem textn_yes (pu : Bool) {txt : List UInt8} {k : Nat} (hL : L.length ≤ 1000000) (h : textO L g at_ = some (txt, k)) :
  SM 141 [.ptr 0 0] [rdB L g at_ nilA pu] [.ptr 0 0] (.tup [T txt, B true]) [rdB L g (at_ + (k : Int)) (.sl 1 k) false, rowTT ((paysO L g at_ k).map T) true] := by
 unfold textO at h
 split at h
 ·cases h
 rename_i p0 hp
 split at h
 ·cases h
 rename_i h0
 split at h
 ·cases h
 rename_i hfull
 injection h with h
 injection h with h1 h2
 subst h2
 have hle := paysO_len L g (szT (Quill.tell (p0.take 2))) at_
 have hsz := szT_le (Quill.tell (p0.take 2))
 have hfl := pays_flat L g (szT (Quill.tell (p0.take 2))) at_
 have hn : 1 ≤ Quill.tell (p0.take 2) ∧ szT (Quill.tell (p0.take 2)) = (Quill.tell (p0.take 2) + 2 + 47) / 48 := by
  unfold szT at h0 ⊢
  split at h0
  ·exact absurd rfl h0
  ·rename_i hc
   exact ⟨by omega, by rw [if_neg hc]⟩
 have hlen : (paysO L g at_ (szT (Quill.tell (p0.take 2)))).length = szT (Quill.tell (p0.take 2)) := by omega
 have hG := glue_ok (paysO L g at_ (szT (Quill.tell (p0.take 2)))) (2 + (Quill.tell (p0.take 2) : Int)) (by omega) (by omega)
 have hg : glu (paysO L g at_ (szT (Quill.tell (p0.take 2)))) (2 + (Quill.tell (p0.take 2) : Int)) = ((paysO L g at_ (szT (Quill.tell (p0.take 2)))).flatten.take (2 + Quill.tell (p0.take 2)), 0) := by
  unfold glu
  rw [if_neg (by omega), if_neg (by omega), show (2 + (Quill.tell (p0.take 2) : Int)).toNat = 2 + Quill.tell (p0.take 2) by omega]
 rw [hg, hlen] at hG
 refine text_3n L g at_ pu p0 _ txt (Quill.tell (p0.take 2)) 2 (step_n pu hL hp) (by rw [hs1']; rfl) (num2 p0 (payO_len hp)) (tell2_lt p0) (szT (Quill.tell (p0.take 2))) (szT (Quill.tell (p0.take 2))) (paysO L g at_ (szT (Quill.tell (p0.take 2)))) (pays_one (by omega) hp) (by omega) (by omega) (tpsize_ok _) (fun j h1 h2 => pays_step hL (by omega) (by omega)) rfl (List.take_of_length_le (by omega)) hG (by rw [bs_size, List.length_take]; omega) ?_
 rw [bs_cut, bs_size, ← h1]
 congr 1
 rw [List.length_take, List.drop_take, List.take_take]
 congr 1
 omega
theorem textn_no (pu : Bool) (hL : L.length ≤ 1000000) (h : textO L g at_ = none) : SM 141 [.ptr 0 0] [rdB L g at_ nilA pu] [.ptr 0 0] (.tup [T [], B false]) [rdB L g at_ nilA pu] ∨
  ∃ (i : Nat) (ps : List AV), SM 141 [.ptr 0 0] [rdB L g at_ nilA pu] [.ptr 0 0] (.tup [T [], B false]) [rdB L g (at_ + (i : Int)) (.sl 1 i) false, rowTT ps false] := by
 unfold textO at h
 split at h
 ·rename_i hp
  exact .inl (text_0n L g at_ pu (step_n_no pu hp))
 ·rename_i p0 hp
  split at h
  ·rename_i h0
   have hS := tpsize_ok (Quill.tell (p0.take 2))
   rw [h0] at hS
   exact .inr ⟨1, [T p0], text_1n L g at_ pu p0 (Quill.tell (p0.take 2)) 2 (step_n pu hL hp) (by rw [hs1']; rfl) (num2 p0 (payO_len hp)) (tell2_lt p0) hS⟩
  ·rename_i h0
   split at h
   ·rename_i hsh
    have hle := paysO_len L g (szT (Quill.tell (p0.take 2))) at_
    have hsz := szT_le (Quill.tell (p0.take 2))
    have hend := paysO_end L g _ at_ hsh
    have h1 : 1 ≤ (paysO L g at_ (szT (Quill.tell (p0.take 2)))).length := by
     have := congrArg List.length (pays_one (L := L) (g := g) (at_ := at_) (k := szT (Quill.tell (p0.take 2))) (by omega) hp)
     rw [List.length_take] at this
     simp at this; omega
    have hst := step_r_no (paysO L g at_ (szT (Quill.tell (p0.take 2)))).length (((paysO L g at_ (szT (Quill.tell (p0.take 2)))).take (paysO L g at_ (szT (Quill.tell (p0.take 2)))).length).map T) hend
    exact .inr ⟨_, _, text_2n L g at_ pu p0 (Quill.tell (p0.take 2)) 2 (step_n pu hL hp) (by rw [hs1']; rfl) (num2 p0 (payO_len hp)) (tell2_lt p0) (szT (Quill.tell (p0.take 2))) (paysO L g at_ (szT (Quill.tell (p0.take 2)))).length (paysO L g at_ (szT (Quill.tell (p0.take 2)))) (pays_one (by omega) hp) (by omega) (by omega) (tpsize_ok _) (fun j h1 h2 => pays_step hL (by omega) h2) h1 hsh hst⟩
   ·cases h
theorem textr_yes (k0 : Nat) (gs : List AV) (fz : Bool) {txt : List UInt8} {k : Nat} (hL : L.length ≤ 1000000) (h : textO L g at_ = some (txt, k)) :
  SM 141 [.ptr 0 0] [rdB L g at_ (.sl 1 k0) false, rowTT gs fz] [.ptr 0 0] (.tup [T txt, B true]) [rdB L g (at_ + (k : Int)) (.sl 1 k) false, rowTT ((paysO L g at_ k).map T) true] := by
 unfold textO at h
 split at h
 ·cases h
 rename_i p0 hp
 split at h
 ·cases h
 rename_i h0
 split at h
 ·cases h
 rename_i hfull
 injection h with h
 injection h with h1 h2
 subst h2
 have hle := paysO_len L g (szT (Quill.tell (p0.take 2))) at_
 have hsz := szT_le (Quill.tell (p0.take 2))
 have hfl := pays_flat L g (szT (Quill.tell (p0.take 2))) at_
 have hn : 1 ≤ Quill.tell (p0.take 2) ∧ szT (Quill.tell (p0.take 2)) = (Quill.tell (p0.take 2) + 2 + 47) / 48 := by
  unfold szT at h0 ⊢
  split at h0
  ·exact absurd rfl h0
  ·rename_i hc
   exact ⟨by omega, by rw [if_neg hc]⟩
 have hlen : (paysO L g at_ (szT (Quill.tell (p0.take 2)))).length = szT (Quill.tell (p0.take 2)) := by omega
 have hG := glue_ok (paysO L g at_ (szT (Quill.tell (p0.take 2)))) (2 + (Quill.tell (p0.take 2) : Int)) (by omega) (by omega)
 have hg : glu (paysO L g at_ (szT (Quill.tell (p0.take 2)))) (2 + (Quill.tell (p0.take 2) : Int)) = ((paysO L g at_ (szT (Quill.tell (p0.take 2)))).flatten.take (2 + Quill.tell (p0.take 2)), 0) := by
  unfold glu
  rw [if_neg (by omega), if_neg (by omega), show (2 + (Quill.tell (p0.take 2) : Int)).toNat = 2 + Quill.tell (p0.take 2) by omega]
 rw [hg, hlen] at hG
 refine text_3r L g at_ k0 gs fz p0 _ txt (Quill.tell (p0.take 2)) 2 (step_n false hL hp) (by rw [hs1']; rfl) (num2 p0 (payO_len hp)) (tell2_lt p0) (szT (Quill.tell (p0.take 2))) (szT (Quill.tell (p0.take 2))) (paysO L g at_ (szT (Quill.tell (p0.take 2)))) (pays_one (by omega) hp) (by omega) (by omega) (tpsize_ok _) (fun j h1 h2 => pays_step hL (by omega) (by omega)) rfl (List.take_of_length_le (by omega)) hG (by rw [bs_size, List.length_take]; omega) ?_
 rw [bs_cut, bs_size, ← h1]
 congr 1
 rw [List.length_take, List.drop_take, List.take_take]
 congr 1
 omega
theorem textr_no (k0 : Nat) (gs : List AV) (fz : Bool) (hL : L.length ≤ 1000000) (h : textO L g at_ = none) : SM 141 [.ptr 0 0] [rdB L g at_ (.sl 1 k0) false, rowTT gs fz] [.ptr 0 0] (.tup [T [], B false]) [rdB L g at_ nilA false] ∨
  ∃ (i : Nat) (ps : List AV), SM 141 [.ptr 0 0] [rdB L g at_ (.sl 1 k0) false, rowTT gs fz] [.ptr 0 0] (.tup [T [], B false]) [rdB L g (at_ + (i : Int)) (.sl 1 i) false, rowTT ps false] := by
 unfold textO at h
 split at h
 ·rename_i hp
  exact .inl (text_0r L g at_ k0 gs fz (step_n_no false hp))
 ·rename_i p0 hp
  split at h
  ·rename_i h0
   have hS := tpsize_ok (Quill.tell (p0.take 2))
   rw [h0] at hS
   exact .inr ⟨1, [T p0], text_1r L g at_ k0 gs fz p0 (Quill.tell (p0.take 2)) 2 (step_n false hL hp) (by rw [hs1']; rfl) (num2 p0 (payO_len hp)) (tell2_lt p0) hS⟩
  ·rename_i h0
   split at h
   ·rename_i hsh
    have hle := paysO_len L g (szT (Quill.tell (p0.take 2))) at_
    have hsz := szT_le (Quill.tell (p0.take 2))
    have hend := paysO_end L g _ at_ hsh
    have h1 : 1 ≤ (paysO L g at_ (szT (Quill.tell (p0.take 2)))).length := by
     have := congrArg List.length (pays_one (L := L) (g := g) (at_ := at_) (k := szT (Quill.tell (p0.take 2))) (by omega) hp)
     rw [List.length_take] at this
     simp at this; omega
    have hst := step_r_no (paysO L g at_ (szT (Quill.tell (p0.take 2)))).length (((paysO L g at_ (szT (Quill.tell (p0.take 2)))).take (paysO L g at_ (szT (Quill.tell (p0.take 2)))).length).map T) hend
    exact .inr ⟨_, _, text_2r L g at_ k0 gs fz p0 (Quill.tell (p0.take 2)) 2 (step_n false hL hp) (by rw [hs1']; rfl) (num2 p0 (payO_len hp)) (tell2_lt p0) (szT (Quill.tell (p0.take 2))) (paysO L g at_ (szT (Quill.tell (p0.take 2)))).length (paysO L g at_ (szT (Quill.tell (p0.take 2)))) (pays_one (by omega) hp) (by omega) (by omega) (tpsize_ok _) (fun j h1 h2 => pays_step hL (by omega) h2) h1 hsh hst⟩
   ·cases h
end
end Go.Proofs.YtbaedepmogkkeaaGreat.Av
