/- What the claim stands on, Rw38: contracts of functions and plain facts. No conditions. -/
import Derived.Test.YtbaedepmogkkeaaGreatRw37
import Derived.Test.YtbaedepmogkkeaaGreatRw21
import Derived.Test.YtbaedepmogkkeaaGreatRw22
namespace Go.Proofs.YtbaedepmogkkeaaGreat.Av
open Go Go.RowKit Tre
set_option linter.unusedVariables false
set_option linter.unusedSimpArgs false
set_option maxRecDepth 100000
set_option maxHeartbeats 4000000
theorem srec_out (l : List Key) (A Lg : Int) (h : 200 < l.length ∨ l.length = 0) : SP 4 [lsA l, shI A Lg] (B true) := by
 have c := recover_nil A Lg
 have a := awake18_ok
 by_cases h1 : 200 < l.length
 ·refine S_ Tryz.func4 (by kernel_rfl) rfl (Nat.le_of_ble_eq_true rfl) ?_ -- G
  repeat' ((try conv => whnf) <;> first | refine Av.Va ?_ | refine ⟨_, _, _, c, ?_⟩ | refine ⟨_, a, ?_⟩ | refine ⟨[], [0,0,3,7,15,31,15,127,255,511,1023,2047,4095,2047,16383,32767,65535,131071,262143,524287,262143,2097151,4194303,8388607,16777215,33554431,67108863,33554431,268435455,536870911,1073741823], Av.len_ok rfl (by kernel_rfl), ?_⟩ | exact True.intro | refine Av.Vb ?_ | exact ⟨rfl, rfl, rfl⟩ | exact ⟨rfl, rfl⟩ | (refine Av.Vc ?_ ?_ <;> intro hBr <;> first | (exfalso; omega) | (exfalso; contradiction) | (exfalso; exact hBr rfl) | skip) | refine Av.Vd ?_ | exact rfl)
 ·have h0 : (l.length : Int) = 0 := by omega
  refine S_ Tryz.func4 (by kernel_rfl) rfl (Nat.le_of_ble_eq_true rfl) ?_
  show avc Tryz.prog SP _ _ _ _ _ _
  dsimp only [avc, startS, Array.toList, Tryz.f4]
  repeat' ((try conv => whnf) <;> first | refine Av.Va ?_ | refine ⟨_, _, _, c, ?_⟩ | refine ⟨_, a, ?_⟩ | refine ⟨[], [0,0,3,7,15,31,15,127,255,511,1023,2047,4095,2047,16383,32767,65535,131071,262143,524287,262143,2097151,4194303,8388607,16777215,33554431,67108863,33554431,268435455,536870911,1073741823], Av.len_ok rfl (by kernel_rfl), ?_⟩ | exact True.intro | refine Av.Vb ?_ | exact ⟨rfl, rfl, rfl⟩ | exact ⟨rfl, rfl⟩ | (refine Av.Vc ?_ ?_ <;> intro hBr <;> first | (exfalso; omega) | (exfalso; contradiction) | (exfalso; exact hBr rfl) | skip) | refine Av.Vd ?_ | exact rfl)
theorem samed_nil : SP 26 [.vs 0 [], nilA] (B true) := by
 refine Sound.weak (samed_ok [] (by decide)) rfl fun w F j h1 h2 x hx => ?_
 match j, h1 with
 | 0, _ => exact hx
 | 1, _ => have := hx.ex_inv; subst this; exact .vnil _
theorem srec_in (l : List Key) (A Lg : Int) (h1 : l.length ≤ 200) (h0 : 1 ≤ l.length)
  (hbad : ∀ q L P w, Pd.isSh q = false → L.length = l.length →
   (∃ e : Int, e ≠ 0 ∧ SM 20 [.ptr 0 0, shI A Lg] (dsk q L P w) [.ptr 0 0] (.tup [nilP, nilA, Z e]) (dsk q L P w) ∧ SP 25 [lsA L, shI A Lg] (.tup [stZ, nilA, Z e])) ∨
   (∃ (A' Lg' : Nat) (R : Tr) (t : List Pr) (g a z u : Nat) (a' : Int) (D : List Dd), A = A' ∧ Lg = Lg' ∧ Fit A' R ∧ A' ≤ 83 ∧ Lg' ≤ 1000 ∧ R.toL = t ∧ 1 ≤ g ∧ D.length ≤ 100000 ∧ SM 20 [.ptr 0 0, shI A Lg] (dsk q L P w) [.ptr 0 0] (.tup [.ptr 1 0, .sl 2 D.length, Z 0]) (dskX q L P w (stB A' Lg' R g a z u 0 none) (ddB D false)) ∧
    SP 25 [lsA L, shI A Lg] (.tup [stA A' Lg' t g a' 0, .own 173 D.length (ddC D), Z 0]))) : SP 4 [lsA l, shI A Lg] (B true) := by
 have cn := dnew_ok (n := l.length) h0 (by omega)
 have a := awake18_ok
 have r1 := right_ok A Lg
 have r2 := rright_ok A Lg
 have r3 := ssectors_ok A Lg
 have r4 := rsectors_ok A Lg
 have hl0 : (newL l.length).length = l.length := newL_len _
 generalize decide (OkSh A Lg) = bR at r1 r2
 generalize sectN A Lg = nS at r3 r4
 refine S_ Tryz.func4 (by kernel_rfl) rfl (Nat.le_of_ble_eq_true rfl) ?_
 show avc Tryz.prog SP _ _ _ _ _ _
 dsimp only [avc, startS, Array.toList, Tryz.f4]
 repeat' ((try conv => whnf) <;> first | refine Av.Va ?_ | refine ⟨_, _, _, cn, ?_⟩ | refine ⟨[], [0,0,3,7,15,31,15,127,255,511,1023,2047,4095,2047,16383,32767,65535,131071,262143,524287,262143,2097151,4194303,8388607,16777215,33554431,67108863,33554431,268435455,536870911,1073741823], Av.len_ok rfl (by kernel_rfl), ?_⟩ | exact True.intro | refine Av.Vb ?_ | exact ⟨rfl, rfl, rfl⟩ | exact ⟨rfl, rfl⟩ | (refine Av.Vc ?_ ?_ <;> intro hBr <;> first | (exfalso; omega) | (exfalso; contradiction) | (exfalso; exact hBr rfl) | skip) | refine Av.Vd ?_ | exact rfl)
 refine ⟨[10, 8, 0, 3], [], fun vs bl => ∃ (i : Nat) (q2 : Pd) (L2 : List Key) (P2 : List Wr) (w2 : Int) (X : List ABlk), i ≤ l.length ∧ (⟨q2, L2, P2, w2⟩ : Dk).Ok i ∧ w2 ≤ i ∧ L2.length = l.length ∧ (vs = [Z i, .ptr 0 0, .vs l.length (l.map T), .ptr 1 0] ∧ bl = X ∧ X = dskR q2 L2 P2 w2 ⟨[Z A, Z Lg], none, false, true⟩), muI l.length, ?_, ?_⟩
 ·exact ⟨0, .nil, newL l.length, [], 0, _, by omega, ⟨rfl, rfl, Nat.le_refl _, (by show (0 : Int) ≤ 0; omega)⟩, by omega, hl0, rfl, rfl, rfl⟩
 rintro vs bl ⟨i, q2, L2, P2, w2, X, hi, hok, hwi, hln, rfl, rfl, hX⟩
 by_cases hlt : i < l.length
 ·have hat := secAt hlt
  have hdec : muI l.length [Z ((i : Int) + 1)] [] < muI l.length [Z i] [] := by show l.length - ((i : Int) + 1).toNat < l.length - (i : Int).toNat; omega
  clear hbad a r1 r2 r3 r4 cn
  generalize l[i] = s at *
  obtain ⟨k1, k2, k3, k4⟩ := hok
  simp only at k1 k2 k3 k4
  by_cases hs : s.length = 64
  ·have c := dwrite_yes q2 L2 P2 w2 (i := i) s (by omega) hs k2 (by omega) k4 (by omega)
   have hok2 : (⟨q2.next, L2.set i s, P2 ++ [(i, s, L2[i]'(by omega))], w2 + 1⟩ : Dk).Ok (i + 1) := ⟨by cases q2 <;> first | rfl | exact k1, by cases q2 <;> trivial, by simp only [List.length_append]; show P2.length + 1 ≤ _; omega, by show 0 ≤ w2 + 1; omega⟩
   have hln2 : (L2.set i s).length = l.length := by rw [List.length_set]; exact hln
   generalize L2[i]'(by omega) = old at *
   generalize L2.set i s = L3 at *
   generalize P2 ++ [(i, s, old)] = P3 at *
   cases q2 with
   | sh => exact absurd (show Pd.isSh .sh = false from k1) (by decide)
   | nil =>
    obtain rfl : _ = [headN 2 L2.length nilA w2, ⟨[Z A, Z Lg], none, false, true⟩, secB L2] := hX
    have hl3 : L3.length = L2.length := by omega
    have c : SM 23 [.ptr 0 0, Z i, T s] [headB L2.length nilA w2, secB L2] [.ptr 0 0] (Z 0) [headB L3.length (.sl 2 P3.length) (w2 + 1), secB L3, penB P3 false] := c
    repeat' ((try conv => whnf) <;> first | refine Av.Va ?_ | (refine ⟨_, hat, ?_⟩) | refine ⟨_, _, _, c, ?_⟩ | refine ⟨[], [0,0,3,7,15,31,15,127,255,511,1023,2047,4095,2047,16383,32767,65535,131071,262143,524287,262143,2097151,4194303,8388607,16777215,33554431,67108863,33554431,268435455,536870911,1073741823], Av.len_ok rfl (by kernel_rfl), ?_⟩ | exact True.intro | refine Av.Vb ?_ | exact ⟨rfl, rfl, rfl⟩ | exact ⟨rfl, rfl⟩ | (refine Av.Vc ?_ ?_ <;> intro hBr <;> first | (exfalso; omega) | (exfalso; contradiction) | (exfalso; exact hBr rfl) | skip) | refine Av.Vd ?_ | exact rfl)
    exact ⟨⟨i + 1, _, L3, P3, _, _, by omega, hok2, by omega, hln2, rfl, rfl, rfl⟩, hdec⟩
   | row fz =>
    obtain rfl : _ = [headN 2 L2.length (.sl 3 P2.length) w2, ⟨[Z A, Z Lg], none, false, true⟩, secB L2, penB P2 fz] := hX
    have c : SM 23 [.ptr 0 0, Z i, T s] [headB L2.length (.sl 2 P2.length) w2, secB L2, penB P2 fz] [.ptr 0 0] (Z 0) [headB L3.length (.sl 2 P3.length) (w2 + 1), secB L3, penB P3 fz] := c
    repeat' ((try conv => whnf) <;> first | refine Av.Va ?_ | (refine ⟨_, hat, ?_⟩) | refine ⟨_, _, _, c, ?_⟩ | refine ⟨[], [0,0,3,7,15,31,15,127,255,511,1023,2047,4095,2047,16383,32767,65535,131071,262143,524287,262143,2097151,4194303,8388607,16777215,33554431,67108863,33554431,268435455,536870911,1073741823], Av.len_ok rfl (by kernel_rfl), ?_⟩ | exact True.intro | refine Av.Vb ?_ | exact ⟨rfl, rfl, rfl⟩ | exact ⟨rfl, rfl⟩ | (refine Av.Vc ?_ ?_ <;> intro hBr <;> first | (exfalso; omega) | (exfalso; contradiction) | (exfalso; exact hBr rfl) | skip) | refine Av.Vd ?_ | exact rfl)
    exact ⟨⟨i + 1, _, L3, P3, _, _, by omega, hok2, by omega, hln2, rfl, rfl, rfl⟩, hdec⟩
  ·have hz := bs_size s
   have c := dwrite_arg q2 L2 P2 w2 (n := i) s (by omega) (by omega) (by omega)
   have hok2 : (⟨q2, L2, P2, w2⟩ : Dk).Ok (i + 1) := ⟨k1, k2, by show P2.length ≤ _; omega, k4⟩
   clear hz
   cases q2 with
   | sh => exact absurd (show Pd.isSh .sh = false from k1) (by decide)
   | nil =>
    obtain rfl : _ = [headN 2 L2.length nilA w2, ⟨[Z A, Z Lg], none, false, true⟩, secB L2] := hX
    have c : SM 23 [.ptr 0 0, Z i, T s] [headB L2.length nilA w2, secB L2] [.ptr 0 0] (Z 2) [headB L2.length nilA w2, secB L2] := c
    repeat' ((try conv => whnf) <;> first | refine Av.Va ?_ | (refine ⟨_, hat, ?_⟩) | refine ⟨_, _, _, c, ?_⟩ | refine ⟨[], [0,0,3,7,15,31,15,127,255,511,1023,2047,4095,2047,16383,32767,65535,131071,262143,524287,262143,2097151,4194303,8388607,16777215,33554431,67108863,33554431,268435455,536870911,1073741823], Av.len_ok rfl (by kernel_rfl), ?_⟩ | exact True.intro | refine Av.Vb ?_ | exact ⟨rfl, rfl, rfl⟩ | exact ⟨rfl, rfl⟩ | (refine Av.Vc ?_ ?_ <;> intro hBr <;> first | (exfalso; omega) | (exfalso; contradiction) | (exfalso; exact hBr rfl) | skip) | refine Av.Vd ?_ | exact rfl)
    exact ⟨⟨i + 1, _, L2, P2, _, _, by omega, hok2, by omega, hln, rfl, rfl, rfl⟩, hdec⟩
   | row fz =>
    obtain rfl : _ = [headN 2 L2.length (.sl 3 P2.length) w2, ⟨[Z A, Z Lg], none, false, true⟩, secB L2, penB P2 fz] := hX
    have c : SM 23 [.ptr 0 0, Z i, T s] [headB L2.length (.sl 2 P2.length) w2, secB L2, penB P2 fz] [.ptr 0 0] (Z 2) [headB L2.length (.sl 2 P2.length) w2, secB L2, penB P2 fz] := c
    repeat' ((try conv => whnf) <;> first | refine Av.Va ?_ | (refine ⟨_, hat, ?_⟩) | refine ⟨_, _, _, c, ?_⟩ | refine ⟨[], [0,0,3,7,15,31,15,127,255,511,1023,2047,4095,2047,16383,32767,65535,131071,262143,524287,262143,2097151,4194303,8388607,16777215,33554431,67108863,33554431,268435455,536870911,1073741823], Av.len_ok rfl (by kernel_rfl), ?_⟩ | exact True.intro | refine Av.Vb ?_ | exact ⟨rfl, rfl, rfl⟩ | exact ⟨rfl, rfl⟩ | (refine Av.Vc ?_ ?_ <;> intro hBr <;> first | (exfalso; omega) | (exfalso; contradiction) | (exfalso; exact hBr rfl) | skip) | refine Av.Vd ?_ | exact rfl)
    exact ⟨⟨i + 1, _, L2, P2, _, _, by omega, hok2, by omega, hln, rfl, rfl, rfl⟩, hdec⟩
 ·obtain rfl : i = l.length := by omega
  have cS := sectors18_ok q2 hok.sh L2 P2 w2 (by omega)
  have c1 := same18_ok L2 (by omega)
  rcases hbad q2 L2 P2 w2 hok.sh hln with ⟨e, he, cr, cR⟩ | ⟨A', Lg', R, t, g, a2, z, u, a', D, rfl, rfl, hf, hA, hLg, ht, hg, hD, cr, cR⟩
  ·have b := back18_nil
   have c2 := samed_nil
   have hok2 := hok.sh
   clear hbad hok
   cases q2 with
   | sh => exact absurd (show Pd.isSh .sh = false from hok2) (by decide)
   | nil =>
    obtain rfl : _ = [headN 2 L2.length nilA w2, ⟨[Z A, Z Lg], none, false, true⟩, secB L2] := hX
    have cS : SM 24 [.ptr 0 0] [headB L2.length nilA w2, secB L2] [.ptr 0 0] (.sl 1 L2.length) [headN 2 L2.length nilA w2, ⟨L2.map T, some 9, false, true⟩, secB L2] := cS
    have cr : SM 20 [.ptr 0 0, shI A Lg] [headB L2.length nilA w2, secB L2] [.ptr 0 0] (.tup [nilP, nilA, Z e]) [headB L2.length nilA w2, secB L2] := cr
    repeat' ((try conv => whnf) <;> first | refine Av.Va ?_ | refine ⟨_, _, _, cS, ?_⟩ | refine ⟨_, _, _, cr, ?_⟩ | refine ⟨_, cR, ?_⟩ | refine ⟨_, b, ?_⟩ | refine ⟨_, c2, ?_⟩ | refine ⟨_, c1, ?_⟩ | refine ⟨_, r1, ?_⟩ | refine ⟨_, r2, ?_⟩ | refine ⟨_, r3, ?_⟩ | refine ⟨_, r4, ?_⟩ | refine ⟨_, a, ?_⟩ | refine ⟨[], [0,0,3,7,15,31,15,127,255,511,1023,2047,4095,2047,16383,32767,65535,131071,262143,524287,262143,2097151,4194303,8388607,16777215,33554431,67108863,33554431,268435455,536870911,1073741823], Av.len_ok rfl (by kernel_rfl), ?_⟩ | exact True.intro | refine Av.Vb ?_ | exact ⟨rfl, rfl, rfl⟩ | exact ⟨rfl, rfl⟩ | (refine Av.Vc ?_ ?_ <;> intro hBr <;> first | (exfalso; omega) | (exfalso; contradiction) | (exfalso; exact hBr rfl) | skip) | refine Av.Vd ?_ | exact rfl)
   | row fz =>
    obtain rfl : _ = [headN 2 L2.length (.sl 3 P2.length) w2, ⟨[Z A, Z Lg], none, false, true⟩, secB L2, penB P2 fz] := hX
    have cS : SM 24 [.ptr 0 0] [headB L2.length (.sl 2 P2.length) w2, secB L2, penB P2 fz] [.ptr 0 0] (.sl 1 L2.length) [headN 2 L2.length (.sl 3 P2.length) w2, ⟨L2.map T, some 9, false, true⟩, secB L2, penB P2 fz] := cS
    have cr : SM 20 [.ptr 0 0, shI A Lg] [headB L2.length (.sl 2 P2.length) w2, secB L2, penB P2 fz] [.ptr 0 0] (.tup [nilP, nilA, Z e]) [headB L2.length (.sl 2 P2.length) w2, secB L2, penB P2 fz] := cr
    repeat' ((try conv => whnf) <;> first | refine Av.Va ?_ | refine ⟨_, _, _, cS, ?_⟩ | refine ⟨_, _, _, cr, ?_⟩ | refine ⟨_, cR, ?_⟩ | refine ⟨_, b, ?_⟩ | refine ⟨_, c2, ?_⟩ | refine ⟨_, c1, ?_⟩ | refine ⟨_, r1, ?_⟩ | refine ⟨_, r2, ?_⟩ | refine ⟨_, r3, ?_⟩ | refine ⟨_, r4, ?_⟩ | refine ⟨_, a, ?_⟩ | refine ⟨[], [0,0,3,7,15,31,15,127,255,511,1023,2047,4095,2047,16383,32767,65535,131071,262143,524287,262143,2097151,4194303,8388607,16777215,33554431,67108863,33554431,268435455,536870911,1073741823], Av.len_ok rfl (by kernel_rfl), ?_⟩ | exact True.intro | refine Av.Vb ?_ | exact ⟨rfl, rfl, rfl⟩ | exact ⟨rfl, rfl⟩ | (refine Av.Vc ?_ ?_ <;> intro hBr <;> first | (exfalso; omega) | (exfalso; contradiction) | (exfalso; exact hBr rfl) | skip) | refine Av.Vd ?_ | exact rfl)
  ·have b := back18_ok D hD
   have c2 := samed_ok D hD
   have ck := like18_ok hf hA hLg g a2 z u 0 hg (by omega) none a' t ht
   have hok2 := hok.sh
   clear hbad hok hf hD ht
   generalize D.length = n at *
   have cr : SM 20 [.ptr 0 0, shI A' Lg'] (dsk q2 L2 P2 w2) [.ptr 0 0] (.tup [.ptr 1 0, .sl 2 n, Z 0]) (dskX q2 L2 P2 w2 (stB A' Lg' R g a2 z u 0 none) ⟨ddC D, some 174, false, true⟩) := cr
   have ck : SM 33 [.ptr 0 0, .agg [Z A', Z Lg', .vs t.length (prC t), U g, Z a', Z 0], .vs t.length (prC t)] [stB A' Lg' R g a2 z u 0 none] [.ptr 0 0] (B true) [stB A' Lg' R g a2 z u 0 none] := ck
   have cR : SP 25 [lsA L2, shI A' Lg'] (.tup [.agg [Z A', Z Lg', .vs t.length (prC t), U g, Z a', Z 0], .own 173 n (ddC D), Z 0]) := cR
   generalize ddC D = C at *
   generalize t.length = m at *
   generalize prC t = E at *
   cases q2 with
   | sh => exact absurd (show Pd.isSh .sh = false from hok2) (by decide)
   | nil =>
    obtain rfl : _ = [headN 2 L2.length nilA w2, ⟨[Z A', Z Lg'], none, false, true⟩, secB L2] := hX
    have cS : SM 24 [.ptr 0 0] [headB L2.length nilA w2, secB L2] [.ptr 0 0] (.sl 1 L2.length) [headN 2 L2.length nilA w2, ⟨L2.map T, some 9, false, true⟩, secB L2] := cS
    have cr : SM 20 [.ptr 0 0, shI A' Lg'] [headB L2.length nilA w2, secB L2] [.ptr 0 0] (.tup [.ptr 1 0, .sl 2 n, Z 0]) [headN 3 L2.length nilA w2, stB A' Lg' R g a2 z u 0 none, ⟨C, some 174, false, true⟩, secB L2] := cr
    repeat' ((try conv => whnf) <;> first | refine Av.Va ?_ | refine ⟨_, _, _, cS, ?_⟩ | refine ⟨_, _, _, cr, ?_⟩ | refine ⟨_, cR, ?_⟩ | refine ⟨[], [0,0,3,7,15,31,15,127,255,511,1023,2047,4095,2047,16383,32767,65535,131071,262143,524287,262143,2097151,4194303,8388607,16777215,33554431,67108863,33554431,268435455,536870911,1073741823], Av.len_ok rfl (by kernel_rfl), ?_⟩ | exact True.intro | refine Av.Vb ?_ | exact ⟨rfl, rfl, rfl⟩ | exact ⟨rfl, rfl⟩ | (refine Av.Vc ?_ ?_ <;> intro hBr <;> first | (exfalso; omega) | (exfalso; contradiction) | (exfalso; exact hBr rfl) | skip) | refine Av.Vd ?_ | exact rfl)
    dsimp only [List.length_cons, List.length_nil, Nat.reduceAdd, Nat.add_eq]
    repeat' ((try conv => whnf) <;> first | refine Av.Va ?_ | refine ⟨_, b, ?_⟩ | refine ⟨_, c2, ?_⟩ | refine ⟨[], [0,0,3,7,15,31,15,127,255,511,1023,2047,4095,2047,16383,32767,65535,131071,262143,524287,262143,2097151,4194303,8388607,16777215,33554431,67108863,33554431,268435455,536870911,1073741823], Av.len_ok rfl (by kernel_rfl), ?_⟩ | exact True.intro | refine Av.Vb ?_ | exact ⟨rfl, rfl, rfl⟩ | exact ⟨rfl, rfl⟩ | (refine Av.Vc ?_ ?_ <;> intro hBr <;> first | (exfalso; omega) | (exfalso; contradiction) | (exfalso; exact hBr rfl) | skip) | refine Av.Vd ?_ | exact rfl)
    dsimp only [List.length_cons, List.length_nil, Nat.reduceAdd, Nat.add_eq]
    repeat' ((try conv => whnf) <;> first | refine Av.Va ?_ | refine ⟨_, _, _, cS, ?_⟩ | refine ⟨[], [0,0,3,7,15,31,15,127,255,511,1023,2047,4095,2047,16383,32767,65535,131071,262143,524287,262143,2097151,4194303,8388607,16777215,33554431,67108863,33554431,268435455,536870911,1073741823], Av.len_ok rfl (by kernel_rfl), ?_⟩ | exact True.intro | refine Av.Vb ?_ | exact ⟨rfl, rfl, rfl⟩ | exact ⟨rfl, rfl⟩ | (refine Av.Vc ?_ ?_ <;> intro hBr <;> first | (exfalso; omega) | (exfalso; contradiction) | (exfalso; exact hBr rfl) | skip) | refine Av.Vd ?_ | exact rfl)
    dsimp only [List.length_cons, List.length_nil, Nat.reduceAdd, Nat.add_eq]
    repeat' ((try conv => whnf) <;> first | refine Av.Va ?_ | refine ⟨_, c1, ?_⟩ | refine ⟨_, r1, ?_⟩ | refine ⟨_, r2, ?_⟩ | refine ⟨_, r3, ?_⟩ | refine ⟨_, r4, ?_⟩ | refine ⟨[], [0,0,3,7,15,31,15,127,255,511,1023,2047,4095,2047,16383,32767,65535,131071,262143,524287,262143,2097151,4194303,8388607,16777215,33554431,67108863,33554431,268435455,536870911,1073741823], Av.len_ok rfl (by kernel_rfl), ?_⟩ | exact True.intro | refine Av.Vb ?_ | exact ⟨rfl, rfl, rfl⟩ | exact ⟨rfl, rfl⟩ | (refine Av.Vc ?_ ?_ <;> intro hBr <;> first | (exfalso; omega) | (exfalso; contradiction) | (exfalso; exact hBr rfl) | skip) | refine Av.Vd ?_ | exact rfl)
    dsimp only [List.length_cons, List.length_nil, Nat.reduceAdd, Nat.add_eq]
    repeat' ((try conv => whnf) <;> first | refine Av.Va ?_ | refine ⟨_, _, _, ck, ?_⟩ | refine ⟨_, a, ?_⟩ | refine ⟨[], [0,0,3,7,15,31,15,127,255,511,1023,2047,4095,2047,16383,32767,65535,131071,262143,524287,262143,2097151,4194303,8388607,16777215,33554431,67108863,33554431,268435455,536870911,1073741823], Av.len_ok rfl (by kernel_rfl), ?_⟩ | exact True.intro | refine Av.Vb ?_ | exact ⟨rfl, rfl, rfl⟩ | exact ⟨rfl, rfl⟩ | (refine Av.Vc ?_ ?_ <;> intro hBr <;> first | (exfalso; omega) | (exfalso; contradiction) | (exfalso; exact hBr rfl) | skip) | refine Av.Vd ?_ | exact rfl)
   | row fz =>
    obtain rfl : _ = [headN 2 L2.length (.sl 3 P2.length) w2, ⟨[Z A', Z Lg'], none, false, true⟩, secB L2, penB P2 fz] := hX
    have cS : SM 24 [.ptr 0 0] [headB L2.length (.sl 2 P2.length) w2, secB L2, penB P2 fz] [.ptr 0 0] (.sl 1 L2.length) [headN 2 L2.length (.sl 3 P2.length) w2, ⟨L2.map T, some 9, false, true⟩, secB L2, penB P2 fz] := cS
    have cr : SM 20 [.ptr 0 0, shI A' Lg'] [headB L2.length (.sl 2 P2.length) w2, secB L2, penB P2 fz] [.ptr 0 0] (.tup [.ptr 1 0, .sl 2 n, Z 0]) [headN 3 L2.length (.sl 4 P2.length) w2, stB A' Lg' R g a2 z u 0 none, ⟨C, some 174, false, true⟩, secB L2, penB P2 fz] := cr
    repeat' ((try conv => whnf) <;> first | refine Av.Va ?_ | refine ⟨_, _, _, cS, ?_⟩ | refine ⟨_, _, _, cr, ?_⟩ | refine ⟨_, cR, ?_⟩ | refine ⟨[], [0,0,3,7,15,31,15,127,255,511,1023,2047,4095,2047,16383,32767,65535,131071,262143,524287,262143,2097151,4194303,8388607,16777215,33554431,67108863,33554431,268435455,536870911,1073741823], Av.len_ok rfl (by kernel_rfl), ?_⟩ | exact True.intro | refine Av.Vb ?_ | exact ⟨rfl, rfl, rfl⟩ | exact ⟨rfl, rfl⟩ | (refine Av.Vc ?_ ?_ <;> intro hBr <;> first | (exfalso; omega) | (exfalso; contradiction) | (exfalso; exact hBr rfl) | skip) | refine Av.Vd ?_ | exact rfl)
    dsimp only [List.length_cons, List.length_nil, Nat.reduceAdd, Nat.add_eq]
    repeat' ((try conv => whnf) <;> first | refine Av.Va ?_ | refine ⟨_, b, ?_⟩ | refine ⟨_, c2, ?_⟩ | refine ⟨[], [0,0,3,7,15,31,15,127,255,511,1023,2047,4095,2047,16383,32767,65535,131071,262143,524287,262143,2097151,4194303,8388607,16777215,33554431,67108863,33554431,268435455,536870911,1073741823], Av.len_ok rfl (by kernel_rfl), ?_⟩ | exact True.intro | refine Av.Vb ?_ | exact ⟨rfl, rfl, rfl⟩ | exact ⟨rfl, rfl⟩ | (refine Av.Vc ?_ ?_ <;> intro hBr <;> first | (exfalso; omega) | (exfalso; contradiction) | (exfalso; exact hBr rfl) | skip) | refine Av.Vd ?_ | exact rfl)
    dsimp only [List.length_cons, List.length_nil, Nat.reduceAdd, Nat.add_eq]
    repeat' ((try conv => whnf) <;> first | refine Av.Va ?_ | refine ⟨_, _, _, cS, ?_⟩ | refine ⟨[], [0,0,3,7,15,31,15,127,255,511,1023,2047,4095,2047,16383,32767,65535,131071,262143,524287,262143,2097151,4194303,8388607,16777215,33554431,67108863,33554431,268435455,536870911,1073741823], Av.len_ok rfl (by kernel_rfl), ?_⟩ | exact True.intro | refine Av.Vb ?_ | exact ⟨rfl, rfl, rfl⟩ | exact ⟨rfl, rfl⟩ | (refine Av.Vc ?_ ?_ <;> intro hBr <;> first | (exfalso; omega) | (exfalso; contradiction) | (exfalso; exact hBr rfl) | skip) | refine Av.Vd ?_ | exact rfl)
    dsimp only [List.length_cons, List.length_nil, Nat.reduceAdd, Nat.add_eq]
    repeat' ((try conv => whnf) <;> first | refine Av.Va ?_ | refine ⟨_, c1, ?_⟩ | refine ⟨_, r1, ?_⟩ | refine ⟨_, r2, ?_⟩ | refine ⟨_, r3, ?_⟩ | refine ⟨_, r4, ?_⟩ | refine ⟨[], [0,0,3,7,15,31,15,127,255,511,1023,2047,4095,2047,16383,32767,65535,131071,262143,524287,262143,2097151,4194303,8388607,16777215,33554431,67108863,33554431,268435455,536870911,1073741823], Av.len_ok rfl (by kernel_rfl), ?_⟩ | exact True.intro | refine Av.Vb ?_ | exact ⟨rfl, rfl, rfl⟩ | exact ⟨rfl, rfl⟩ | (refine Av.Vc ?_ ?_ <;> intro hBr <;> first | (exfalso; omega) | (exfalso; contradiction) | (exfalso; exact hBr rfl) | skip) | refine Av.Vd ?_ | exact rfl)
    dsimp only [List.length_cons, List.length_nil, Nat.reduceAdd, Nat.add_eq]
    repeat' ((try conv => whnf) <;> first | refine Av.Va ?_ | refine ⟨_, _, _, ck, ?_⟩ | refine ⟨_, a, ?_⟩ | refine ⟨[], [0,0,3,7,15,31,15,127,255,511,1023,2047,4095,2047,16383,32767,65535,131071,262143,524287,262143,2097151,4194303,8388607,16777215,33554431,67108863,33554431,268435455,536870911,1073741823], Av.len_ok rfl (by kernel_rfl), ?_⟩ | exact True.intro | refine Av.Vb ?_ | exact ⟨rfl, rfl, rfl⟩ | exact ⟨rfl, rfl⟩ | (refine Av.Vc ?_ ?_ <;> intro hBr <;> first | (exfalso; omega) | (exfalso; contradiction) | (exfalso; exact hBr rfl) | skip) | refine Av.Vd ?_ | exact rfl)
theorem srec_ok (l : List Key) (A Lg : Int) : SP 4 [lsA l, shI A Lg] (B true) := by
 by_cases h : 200 < l.length ∨ l.length = 0
 ·exact srec_out l A Lg h
 refine srec_in l A Lg (by omega) (by omega) fun q L P w hq hL => ?_
 by_cases hb : sectN A Lg ≠ L.length ∨ ¬ OkSh A Lg
 ·exact .inl ⟨2, by decide, recover_arg q hq L P w A Lg hb, rrecover_err L A Lg 2 (by decide) (rload_arg L A Lg hb (by omega))⟩
 have hn : sectN A Lg = L.length := by
  apply Classical.byContradiction; intro h; exact hb (.inl h)
 have hs : OkSh A Lg := by
  apply Classical.byContradiction; intro h; exact hb (.inr h)
 have hs2 := hs
 obtain ⟨s1, s2, s3, s4⟩ := hs2
 obtain ⟨A', rfl⟩ : ∃ A' : Nat, A = A' := ⟨A.toNat, by omega⟩
 obtain ⟨Lg', rfl⟩ : ∃ L' : Nat, Lg = L' := ⟨Lg.toNat, by omega⟩
 have hll : L.length = 2 + 2 * A' + Lg' := by unfold sectN at hn; rw [if_pos hs] at hn; omega
 obtain ⟨e, t, g, a, hr⟩ := rec_all L A' Lg' (by omega)
 by_cases he : e ≠ 0
 ·obtain ⟨m1, m2⟩ := recS_err (q := q) (P := P) (w := w) hs hll hq hr he
  exact .inl ⟨e, he, m1, m2⟩
 ·obtain rfl : e = 0 := by simpa using he
  obtain ⟨hg, ha, hf, R, hR, hRl, m1, m2⟩ := recS_ok (q := q) (P := P) (w := w) hs hll hq hr
  have hD : (layD A' (Shf.encB t) (g + 1) (1 - a) (Shf.encB t).length (sumN (Shf.encB t))).length = npc (Shf.encB t) + 3 := layD_len _ _ _ _ _ _
  have hf2 := hf.fit
  refine .inr ⟨A', Lg', R, t, g + 1, 1 - a, (Shf.encB t).length, sumN (Shf.encB t), 1 - (a : Int), layD A' (Shf.encB t) (g + 1) (1 - a) (Shf.encB t).length (sumN (Shf.encB t)), rfl, rfl, hR, by omega, by omega, hRl, by omega, by omega, ?_, ?_⟩
  ·rw [hD]; exact m1
  ·rw [hD]; exact m2
end Go.Proofs.YtbaedepmogkkeaaGreat.Av
namespace Go.Proofs.YtbaedepmogkkeaaGreat.Av
set_option linter.unusedSimpArgs false
open Go Go.RowKit Tre
set_option linter.unusedVariables false
theorem cells_sh {cs : Array Value} (h : CellsOk [.int .i64, .int .i64] cs.toList) : ∃ A Lg : Int, (-9223372036854775808 ≤ A ∧ A ≤ 9223372036854775807) ∧ (-9223372036854775808 ≤ Lg ∧ Lg ≤ 9223372036854775807) ∧ cs = #[.int .i64 A, .int .i64 Lg] := by
 obtain ⟨v1, r1, e1, ⟨k1, rfl, hk1⟩, hr1⟩ := h.cons_
 obtain ⟨v2, r2, e2, ⟨k2, rfl, hk2⟩, hr2⟩ := hr1.cons_
 have e3 := hr2.empty_
 subst e3 e2
 have b1 := bounds_i64 hk1
 have b2 := bounds_i64 hk2
 refine ⟨k1, k2, ⟨by omega, by omega⟩, ⟨by omega, by omega⟩, ?_⟩
 apply Array.ext'
 rw [e1]
theorem storeRecovers_walk (rows : List (List Value)) (k : Nat) (F : Nat → Nat → Prop) (v : Value) (b : Array Value) (w : World) (hq : rows.length = k) (hz : k ≤ 9223372036854775807)
  (hok : ∀ r ∈ rows, CellsOk [.str] r) (hlo : ∀ g j, F g j → g < w.heap.size) (hrep : ∀ F' : Nat → Nat → Prop, (∀ g j, F g j → F' g j) → Rep w p0 c0 F' noD (.vs k (rows.flatten.map .ex)) v) (hb : CellsOk [.int .i64, .int .i64] b.toList) :
  Calls Tryz.prog 4 #[v, .agg b] w fun e w' => e = .returned (.bool true) ∧ Below w.heap.size w w' := by
 obtain ⟨A, Lg, _, _, rfl⟩ := cells_sh hb
 obtain ⟨L, e1, e2, e3⟩ := rows_T hok
 have hr := hrep F fun _ _ h => h
 rw [e2, ← hq, ← e1] at hr
 refine calls_at (srec_ok L A Lg) w F hlo _ rfl fun j hj => ?_
 match j, hj with
 | 0, _ => exact hr
 | 1, _ => exact .ex _ _
end Go.Proofs.YtbaedepmogkkeaaGreat.Av
