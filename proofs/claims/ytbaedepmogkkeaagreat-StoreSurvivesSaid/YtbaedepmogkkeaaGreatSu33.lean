/- What the claim stands on, Su33: contracts of functions and plain facts. No conditions. -/
import Derived.Test.YtbaedepmogkkeaaGreatSu29
namespace Go.Proofs.YtbaedepmogkkeaaGreat.Av
open Go Go.RowKit Tre
set_option linter.unusedVariables false
set_option linter.unusedSimpArgs false
set_option maxRecDepth 100000
set_option maxHeartbeats 4000000
theorem rslay_yes (L : List Pr) (hL : L.length ≤ 1000000) (hs : Shf.Short L) (g : Nat) (n : Int) (hn : (npc (Shf.encB L) : Int) ≤ n) (hl : (Shf.encB L).length ≤ 48000000) (hg : 1 ≤ g ∧ g ≤ 1099511627776) (hp : npc (Shf.encB L) < 1048575) :
  SP 15 [.vs L.length (prC L), U g, Z n] (.tup [.own 9 (npc (Shf.encB L)) (secs g (Shf.encB L) (npc (Shf.encB L))), Z 0]) := by
 have c1 := renc_ok L hL hs
 have c2 := rcount_ok ((Shf.encB L).length : Int) (by omega)
 rw [cnt_npc] at c2
 have c3 := rcut_yes (Shf.encB L) n (by omega) hn
 have hz := bs_size (Shf.encB L)
 generalize Shf.encB L = x at *
 obtain ⟨N, hN⟩ : ∃ N, N = npc x := ⟨_, rfl⟩
 rw [← hN] at hp c2 c3 hn ⊢
 rw [← hz] at c2
 refine S_ Tryz.func15 (by kernel_rfl) rfl (Nat.le_of_ble_eq_true rfl) ?_
 show avc Tryz.prog SP _ _ _ _ _ _
 dsimp only [avc, startS, Array.toList, Tryz.f15]
 refine Av.Wk ?_
 refine ⟨[13, 10, 12, 1], [(12, some 9)], fun vs bl => ∃ (i : Nat) (D : List AV), i ≤ N ∧ D = secs g x i ∧ (vs = [Z i, .sl 0 N, .sl 1 i, U g] ∧ bl = [⟨pcs x N, some 9, true, true⟩, ⟨D, some 9, false, true⟩]), muI N, ?_, ?_⟩
 ·exact ⟨0, _, by omega, rfl, rfl, rfl⟩
 clear c1 c2 c3
 rintro vs bl ⟨i, D, hi, hD, rfl, rfl⟩
 have hl := secs_len g x i
 have hs1 : sizeT Tryz.prog 9 = 1 := by kernel_rfl
 by_cases hik : i < N
 ·have hat : (pcs x N)[mulS (i : Int).toNat (sizeT Tryz.prog 9)]? = some (T (pc x i)) := by rw [hs1, mulS_eq, Nat.mul_one, Int.toNat_natCast]; simp [pcs, hik]
  have hMi := rmark_yes (g := g) (p := (i : Int)) ⟨hg.1, hg.2, by omega, by omega⟩
  rw [show (g : Int) * 1048576 + i + 1 = ((mkG g i : Nat) : Int) by unfold mkG; omega] at hMi
  have hSi := rseal_yes (mkG g i) (pc x i) (by unfold mkG; omega) (by unfold mkG; omega) (by unfold pc; rw [List.length_take]; omega)
  have hdl : D.length = i := by rw [hD, hl]
  have ap : room (i + 1) (bytesT Tryz.prog 9) ∧ D.length = i * sizeT Tryz.prog 9 ∧ ([T (sec (mkG g i) (pc x i))] : List AV).length = 1 * sizeT Tryz.prog 9 ∧ ∀ u ∈ ([T (sec (mkG g i) (pc x i))] : List AV), one1 u = true := ⟨room_sec (by omega), by rw [hs1, hdl, Nat.mul_one], by rw [hs1]; rfl, one_S _⟩
  have hst : D ++ [T (sec (mkG g i) (pc x i))] = secs g x (i + 1) := by rw [hD, secs_succ]
  have hdec : muI N [Z ((i : Int) + 1)] [] < muI N [Z i] [] := by show N - ((i : Int) + 1).toNat < N - (i : Int).toNat; omega
  generalize sec (mkG g i) (pc x i) = S at *
  generalize mkG g i = M at *
  generalize pc x i = P at *
  repeat' ((try conv => whnf) <;> first | refine Av.Va ?_ | (refine ⟨_, hat, ?_⟩) | refine ⟨_, hMi, ?_⟩ | refine ⟨_, hSi, ?_⟩ | (refine ⟨false, ?_⟩) | (refine And.intro ap ?_) | exact True.intro | refine Av.Vb ?_ | exact ⟨rfl, rfl, rfl⟩ | exact ⟨rfl, rfl⟩ | (refine Av.Vc ?_ ?_ <;> intro hBr <;> first | (exfalso; omega) | (exfalso; contradiction) | (exfalso; exact hBr rfl) | skip) | refine Av.Vd ?_ | exact rfl)
  exact ⟨⟨i + 1, _, by omega, hst, rfl, rfl⟩, hdec⟩
 ·obtain rfl : i = N := by omega
  subst hD
  exact Av.W
/-! ### Read -/
theorem rread_arg (L : List (List UInt8)) (g : Nat) (n : Int) (h : ¬ (1 ≤ g ∧ g ≤ 1099511627776) ∨ n < 0) : SP 17 [lsA L, U g, Z n] (.tup [.vs 0 [], Z 2]) := by
 have h : n < 0 ∨ ¬ n < 0 ∧ g < 1 ∨ ¬ n < 0 ∧ ¬ g < 1 ∧ 1099511627776 < g := by omega
 rcases h with h | ⟨h, h2⟩ | ⟨h, h2, h3⟩
 ·refine S_ Tryz.func17 (by kernel_rfl) rfl (Nat.le_of_ble_eq_true rfl) ?_ -- G
  exact Av.W
 ·refine S_ Tryz.func17 (by kernel_rfl) rfl (Nat.le_of_ble_eq_true rfl) ?_ -- G
  exact Av.W
 ·refine S_ Tryz.func17 (by kernel_rfl) rfl (Nat.le_of_ble_eq_true rfl) ?_ -- G
  exact Av.W
theorem rread_few (L : List (List UInt8)) (g : Nat) (n : Int) (hg : 1 ≤ g ∧ g ≤ 1099511627776) (hn : 0 ≤ n) (hn2 : n ≤ 9223372036854775807) (hl : (L.length : Int) < cntP n) : SP 17 [lsA L, U g, Z n] (.tup [.vs 0 [], Z 3]) := by
 have c2 := rcount_ok n hn2
 obtain ⟨g1, g2⟩ := hg
 refine S_ Tryz.func17 (by kernel_rfl) rfl (Nat.le_of_ble_eq_true rfl) ?_
 show avc Tryz.prog SP _ _ _ _ _ _
 dsimp only [avc, startS, Array.toList, Tryz.f17]
 exact Av.W
def RQInv (L : List (List UInt8)) (g m : Nat) (n : Int) (vs : List AV) (bl : List ABlk) : Prop :=
 ∃ (i : Nat) (acc : List (List UInt8)) (D : List AV), i ≤ m ∧ acc = payC (L.take i) ∧ (∀ j (h : j < L.length), j < i → isS g j L[j]) ∧ D = acc.map T ∧
  (vs = [Z i, Z m, .vs L.length (L.map T), U g, Z n, .sl 0 i] ∧ bl = [⟨D, some 9, false, true⟩])
theorem rread_walk (L : List (List UInt8)) (g : Nat) (n : Int) (m : Nat) (R : AV) (E : Int) (hg : 1 ≤ g ∧ g ≤ 1099511627776) (hn : 0 ≤ n) (hn2 : n ≤ 9223372036854775807) (hm : cntP n = m) (hl : m ≤ L.length) (hL : m ≤ 1000000)
  (hbad : ∀ j (h : j < L.length), j < m → ¬ isS g j L[j] → R = .vs 0 [] ∧ E = 4)
  (hgood : (∀ j (h : j < L.length), j < m → isS g j L[j]) → ∃ t u k cs, SP 76 [.vs (payC (L.take m)).length ((payC (L.take m)).map T), Z n] (.tup [T t, Z u]) ∧ SP 77 [T t] (.tup [.vs k cs, Z E]) ∧ R = .vs k cs) :
  SP 17 [lsA L, U g, Z n] (.tup [R, Z E]) := by
 have c2 := rcount_ok n hn2
 rw [hm] at c2
 obtain ⟨g1, g2⟩ := hg
 have hs1 : sizeT Tryz.prog 9 = 1 := by kernel_rfl
 have e0 : RQInv L g m n [Z 0, Z m, .vs L.length (L.map T), U g, Z n, .sl 0 0] [⟨[], some 9, false, true⟩] := ⟨0, [], [], by omega, rfl, fun j _ h => absurd h (by omega), rfl, rfl, rfl⟩
 refine S_ Tryz.func17 (by kernel_rfl) rfl (Nat.le_of_ble_eq_true rfl) ?_
 show avc Tryz.prog SP _ _ _ _ _ _
 dsimp only [avc, startS, Array.toList, Tryz.f17]
 refine Av.Wk ?_
 refine ⟨[10, 8, 0, 1, 2, 9], [(9, some 9)], RQInv L g m n, muI m, e0, ?_⟩
 clear c2 e0
 rintro vs bl ⟨i, acc, D, hi, hacc, hgd, hD, rfl, rfl⟩
 have hDl : D.length = i * sizeT Tryz.prog 9 := by rw [hD, hs1, List.length_map, hacc]; unfold payC; rw [List.length_map, List.length_take]; omega
 by_cases hik : i < m
 ·have hat : (L.map T)[mulS (i : Int).toNat (sizeT Tryz.prog 9) + 0]? = some (T (L[i]'(by omega))) := by
   rw [hs1, mulS_eq, Nat.mul_one, Int.toNat_natCast, Nat.add_zero, List.getElem?_map, List.getElem?_eq_getElem (by omega)]; rfl
  have hO := ropen_ok (L[i]'(by omega))
  have hM := rmark_yes (g := g) (p := (i : Int)) ⟨g1, g2, by omega, by omega⟩
  rw [show (g : Int) * 1048576 + i + 1 = ((mkG g i : Nat) : Int) by unfold mkG; omega] at hM
  have hdec : muI m [Z ((i : Int) + 1)] [] < muI m [Z i] [] := by show m - ((i : Int) + 1).toNat < m - (i : Int).toNat; omega
  by_cases hS : isS g i (L[i]'(by omega))
  ·have ap : room (i + 1) (bytesT Tryz.prog 9) ∧ D.length = i * sizeT Tryz.prog 9 ∧ ([T (opn (L[i]'(by omega))).2.1] : List AV).length = 1 * sizeT Tryz.prog 9 ∧ ∀ u ∈ ([T (opn (L[i]'(by omega))).2.1] : List AV), one1 u = true := ⟨room_sec (by omega), hDl, by rw [hs1]; rfl, one_S _⟩
   have fin : RQInv L g m n [Z ((i : Int) + 1), Z m, .vs L.length (L.map T), U g, Z n, .sl 0 (i + 1)] [⟨D ++ [T (opn (L[i]'(by omega))).2.1], some 9, false, true⟩] :=
    ⟨i + 1, _, _, by omega, rfl, fun j h hj => by
     by_cases h1 : j < i
     ·exact hgd j h h1
     ·obtain rfl : j = i := by omega
      exact hS, by rw [hD, hacc, payC_succ (show i < L.length by omega), List.map_append]; rfl, rfl, rfl⟩
   obtain ⟨s1, s2⟩ := hS
   rw [s1, s2] at hO
   obtain ⟨M, hM2⟩ : ∃ M, M = mkG g i := ⟨_, rfl⟩
   rw [← hM2] at hM hO
   clear hM2 s1 s2
   obtain ⟨P, hP⟩ : ∃ P, P = (opn (L[i]'(by omega))).2.1 := ⟨_, rfl⟩
   rw [← hP] at hO ap fin
   clear hP
   clear hgd hgood hbad hD hacc hDl
   repeat' ((try conv => whnf) <;> first | refine Av.Va ?_ | refine ⟨_, hM, ?_⟩ | (refine ⟨_, hat, ?_⟩) | refine ⟨_, hO, ?_⟩ | (refine ⟨false, ?_⟩) | (refine And.intro ap ?_) | exact True.intro | refine Av.Vb ?_ | exact ⟨rfl, rfl, rfl⟩ | exact ⟨rfl, rfl⟩ | (refine Av.Vc ?_ ?_ <;> intro hBr <;> first | (exfalso; omega) | (exfalso; contradiction) | (exfalso; exact hBr rfl) | skip) | refine Av.Vd ?_ | exact rfl)
   exact hdec
  ·obtain ⟨rfl, rfl⟩ := hbad i (by omega) hik hS
   have hne : (opn (L[i]'(by omega))).2.2 ≠ 0 ∨ (opn (L[i]'(by omega))).1 ≠ mkG g i := by unfold isS at hS; omega
   obtain ⟨a, b, c, ho⟩ : ∃ a b c, opn (L[i]'(by omega)) = (a, b, c) := ⟨_, _, _, rfl⟩
   rw [ho] at hO hne
   simp only at hO hne
   obtain ⟨M, hM2⟩ : ∃ M, M = mkG g i := ⟨_, rfl⟩
   rw [← hM2] at hM hne
   clear hM2
   have hda : c = 0 → (a : Int) ≠ (M : Int) := fun h h2 => by omega
   clear hne
   clear hgd hgood hbad hD hacc hDl hS ho
   by_cases hc : c = 0
   ·subst hc
    have hda := hda rfl
    repeat' ((try conv => whnf) <;> first | refine Av.Va ?_ | refine ⟨_, hM, ?_⟩ | (refine ⟨_, hat, ?_⟩) | refine ⟨_, hO, ?_⟩ | exact True.intro | refine Av.Vb ?_ | exact ⟨rfl, rfl, rfl⟩ | exact ⟨rfl, rfl⟩ | (refine Av.Vc ?_ ?_ <;> intro hBr <;> first | (exfalso; omega) | (exfalso; contradiction) | (exfalso; exact hBr rfl) | skip) | refine Av.Vd ?_ | exact rfl)
   ·clear hda
    repeat' ((try conv => whnf) <;> first | refine Av.Va ?_ | refine ⟨_, hM, ?_⟩ | (refine ⟨_, hat, ?_⟩) | refine ⟨_, hO, ?_⟩ | exact True.intro | refine Av.Vb ?_ | exact ⟨rfl, rfl, rfl⟩ | exact ⟨rfl, rfl⟩ | (refine Av.Vc ?_ ?_ <;> intro hBr <;> first | (exfalso; omega) | (exfalso; contradiction) | (exfalso; exact hBr rfl) | skip) | refine Av.Vd ?_ | exact rfl)
 ·obtain rfl : i = m := by omega
  obtain ⟨t, u, k, cs, cg, cd, rfl⟩ := hgood fun j h hj => hgd j h hj
  have hal : acc.length = i := by rw [hacc]; unfold payC; rw [List.length_map, List.length_take]; omega
  rw [← hacc, ← hD, hal] at cg
  clear hgd hgood hbad hD hacc hDl
  repeat' ((try conv => whnf) <;> first | refine Av.Va ?_ | refine ⟨_, cg, ?_⟩ | refine ⟨_, cd, ?_⟩ | exact True.intro | refine Av.Vb ?_ | exact ⟨rfl, rfl, rfl⟩ | exact ⟨rfl, rfl⟩ | (refine Av.Vc ?_ ?_ <;> intro hBr <;> first | (exfalso; omega) | (exfalso; contradiction) | (exfalso; exact hBr rfl) | skip) | refine Av.Vd ?_ | exact rfl)
theorem rread_ok (L : List (List UInt8)) (g : Nat) (n : Int) (hn2 : n ≤ 9223372036854775807) (hL : L.length ≤ 1000000) : SP 17 [lsA L, U g, Z n] (.tup [.vs (rd L g n).1.length (prC (rd L g n).1), Z (rd L g n).2]) := by
 unfold rd
 by_cases hgn : ¬ (1 ≤ g ∧ g ≤ 1099511627776) ∨ n < 0
 ·rw [if_pos hgn]; exact rread_arg L g n hgn
 ·rw [if_neg hgn]
  have hg : 1 ≤ g ∧ g ≤ 1099511627776 := by omega
  have hn : 0 ≤ n := by omega
  by_cases hl : (L.length : Int) < cntP n
  ·rw [if_pos hl]; exact rread_few L g n hg hn hn2 hl
  ·rw [if_neg hl]
   have hc0 : 0 ≤ cntP n := by unfold cntP; split <;> omega
   obtain ⟨m, hm⟩ : ∃ m : Nat, cntP n = m := ⟨(cntP n).toNat, by omega⟩
   rw [hm, Int.toNat_natCast]
   have hl : m ≤ L.length := by omega
   have hpl : (payC (L.take m)).length ≤ 1000000 := by unfold payC; rw [List.length_map, List.length_take]; omega
   have hfl : (payC (L.take m)).flatten.length ≤ 48000000 := by
    have := payC_flat (L.take m)
    rw [List.length_take] at this
    omega
   have hgl := glu_len (payC (L.take m)) n
   by_cases hs : ∀ j (h : j < L.length), j < m → isS g j L[j]
   ·rw [if_pos hs]
    exact rread_walk L g n m _ _ hg hn hn2 hm hl (by omega) (fun j h hj hb => absurd (hs j h hj) hb) fun _ => ⟨_, _, _, _, rglue_all _ n hpl (by omega), rdec_ok _ (by omega), rfl⟩
   ·rw [if_neg hs]
    exact rread_walk L g n m _ _ hg hn hn2 hm hl (by omega) (fun j h hj hb => ⟨rfl, rfl⟩) fun h => absurd h hs
end Go.Proofs.YtbaedepmogkkeaaGreat.Av
