/- What the claim stands on, Pl39: contracts of functions and plain facts. No conditions. -/
import Derived.Test.YtbaedepmogkkeaaGreatPl38
import Derived.Test.YtbaedepmogkkeaaGreatPl22
namespace Go.Proofs.YtbaedepmogkkeaaGreat.Av
open Go Go.RowKit Tre
set_option linter.unusedVariables false
set_option linter.unusedSimpArgs false
set_option maxRecDepth 100000
set_option maxHeartbeats 4000000
abbrev bcA (os : List OpP) : AV := .vs os.length (opC os)
abbrev bchA (L : List (List OpP)) : AV := .vs L.length (L.map bcA)
theorem hsB : sizeT Tryz.prog 22 = 1 := by kernel_rfl
theorem bchAt {L : List (List OpP)} {i : Nat} (h : i < L.length) : (L.map bcA)[mulS (i : Int).toNat (sizeT Tryz.prog 22)]? = some (bcA L[i]) := by
 rw [hsB, mulS_eq, Nat.mul_one, Int.toNat_natCast, List.getElem?_map, List.getElem?_eq_getElem h]; rfl
theorem over18_no (L : List (List OpP)) (most : Nat) (hm : L.length ≤ most) (hq : most ≤ 1000) (h : ∀ os ∈ L, ¬ Over13 os) : SP 40 [bchA L, Z most] (B false) := by
 refine S_ Tryz.func40 (by kernel_rfl) rfl (Nat.le_of_ble_eq_true rfl) ?_
 show avc Tryz.prog SP _ _ _ _ _ _
 dsimp only [avc, startS, Array.toList, Tryz.f40]
 repeat' ((try conv => whnf) <;> first | refine Av.Va ?_ | exact True.intro | refine Av.Vb ?_ | exact ⟨rfl, rfl, rfl⟩ | exact ⟨rfl, rfl⟩ | (refine Av.Vc ?_ ?_ <;> intro hBr <;> first | (exfalso; omega) | (exfalso; contradiction) | (exfalso; exact hBr rfl) | skip) | refine Av.Vd ?_ | exact rfl)
 refine ⟨[5, 0], [], fun vs bl => ∃ i : Nat, i ≤ L.length ∧ (vs = [Z i, bchA L] ∧ bl = []), muI L.length, ?_, ?_⟩
 ·exact ⟨0, by omega, rfl, rfl⟩
 rintro vs bl ⟨i, hi, rfl, rfl⟩
 by_cases hlt : i < L.length
 ·have hat := bchAt hlt
  have c := over13_no (h _ (List.getElem_mem hlt))
  have hdec : muI L.length [Z ((i : Int) + 1)] [] < muI L.length [Z i] [] := by show L.length - ((i : Int) + 1).toNat < L.length - (i : Int).toNat; omega
  clear h
  generalize L[i] = os at *
  repeat' ((try conv => whnf) <;> first | refine Av.Va ?_ | (refine ⟨_, hat, ?_⟩) | refine ⟨_, c, ?_⟩ | exact True.intro | refine Av.Vb ?_ | exact ⟨rfl, rfl, rfl⟩ | exact ⟨rfl, rfl⟩ | (refine Av.Vc ?_ ?_ <;> intro hBr <;> first | (exfalso; omega) | (exfalso; contradiction) | (exfalso; exact hBr rfl) | skip) | refine Av.Vd ?_ | exact rfl)
  exact ⟨⟨i + 1, by omega, rfl, rfl⟩, hdec⟩
 ·obtain rfl : i = L.length := by omega
  repeat' ((try conv => whnf) <;> first | refine Av.Va ?_ | exact True.intro | refine Av.Vb ?_ | exact ⟨rfl, rfl, rfl⟩ | exact ⟨rfl, rfl⟩ | (refine Av.Vc ?_ ?_ <;> intro hBr <;> first | (exfalso; omega) | (exfalso; contradiction) | (exfalso; exact hBr rfl) | skip) | refine Av.Vd ?_ | exact rfl)
theorem over18_many (L : List (List OpP)) (most : Nat) (hm : most < L.length) : SP 40 [bchA L, Z most] (B true) := by
 refine S_ Tryz.func40 (by kernel_rfl) rfl (Nat.le_of_ble_eq_true rfl) ?_
 show avc Tryz.prog SP _ _ _ _ _ _
 dsimp only [avc, startS, Array.toList, Tryz.f40]
 repeat' ((try conv => whnf) <;> first | refine Av.Va ?_ | exact True.intro | refine Av.Vb ?_ | exact ⟨rfl, rfl, rfl⟩ | exact ⟨rfl, rfl⟩ | (refine Av.Vc ?_ ?_ <;> intro hBr <;> first | (exfalso; omega) | (exfalso; contradiction) | (exfalso; exact hBr rfl) | skip) | refine Av.Vd ?_ | exact rfl)
theorem over18_one (L : List (List OpP)) (most : Nat) (hm : L.length ≤ most) (hq : most ≤ 1000) (k : Nat) (hk : k < L.length) (h1 : Over13 L[k]) (h2 : L[k].length ≤ 9223372036854775807) (h3 : ∀ j (h : j < L.length), j < k → ¬ Over13 L[j]) : SP 40 [bchA L, Z most] (B true) := by
 refine S_ Tryz.func40 (by kernel_rfl) rfl (Nat.le_of_ble_eq_true rfl) ?_
 show avc Tryz.prog SP _ _ _ _ _ _
 dsimp only [avc, startS, Array.toList, Tryz.f40]
 repeat' ((try conv => whnf) <;> first | refine Av.Va ?_ | exact True.intro | refine Av.Vb ?_ | exact ⟨rfl, rfl, rfl⟩ | exact ⟨rfl, rfl⟩ | (refine Av.Vc ?_ ?_ <;> intro hBr <;> first | (exfalso; omega) | (exfalso; contradiction) | (exfalso; exact hBr rfl) | skip) | refine Av.Vd ?_ | exact rfl)
 refine ⟨[5, 0], [], fun vs bl => ∃ i : Nat, i ≤ k ∧ (vs = [Z i, bchA L] ∧ bl = []), muI L.length, ?_, ?_⟩
 ·exact ⟨0, by omega, rfl, rfl⟩
 rintro vs bl ⟨i, hi, rfl, rfl⟩
 have hlt : i < L.length := by omega
 have hat := bchAt hlt
 have hdec : muI L.length [Z ((i : Int) + 1)] [] < muI L.length [Z i] [] := by show L.length - ((i : Int) + 1).toNat < L.length - (i : Int).toNat; omega
 by_cases hik : i < k
 ·have c := over13_no (h3 i hlt hik)
  clear h3 h1 h2
  generalize L[i] = os at *
  repeat' ((try conv => whnf) <;> first | refine Av.Va ?_ | (refine ⟨_, hat, ?_⟩) | refine ⟨_, c, ?_⟩ | exact True.intro | refine Av.Vb ?_ | exact ⟨rfl, rfl, rfl⟩ | exact ⟨rfl, rfl⟩ | (refine Av.Vc ?_ ?_ <;> intro hBr <;> first | (exfalso; omega) | (exfalso; contradiction) | (exfalso; exact hBr rfl) | skip) | refine Av.Vd ?_ | exact rfl)
  exact ⟨⟨i + 1, by omega, rfl, rfl⟩, hdec⟩
 ·obtain rfl : i = k := by omega
  have c := over13_yes h2 h1
  clear h3 h1 h2
  generalize L[i] = os at *
  repeat' ((try conv => whnf) <;> first | refine Av.Va ?_ | (refine ⟨_, hat, ?_⟩) | refine ⟨_, c, ?_⟩ | exact True.intro | refine Av.Vb ?_ | exact ⟨rfl, rfl, rfl⟩ | exact ⟨rfl, rfl⟩ | (refine Av.Vc ?_ ?_ <;> intro hBr <;> first | (exfalso; omega) | (exfalso; contradiction) | (exfalso; exact hBr rfl) | skip) | refine Av.Vd ?_ | exact rfl)
def Over18 (L : List (List OpP)) (most : Nat) : Prop := most < L.length ∨ ∃ os ∈ L, Over13 os
theorem over18_ok (L : List (List OpP)) (most : Nat) (hq : most ≤ 1000) (hl : ∀ os ∈ L, os.length ≤ 9223372036854775807) :
  (Over18 L most ∧ SP 40 [bchA L, Z most] (B true)) ∨ ((L.length ≤ most ∧ ∀ os ∈ L, ¬ Over13 os) ∧ SP 40 [bchA L, Z most] (B false)) := by
 by_cases h : most < L.length
 ·exact .inl ⟨.inl h, over18_many L most h⟩
 have key : ∀ n, n ≤ L.length → (∀ j (h : j < L.length), j < n → ¬ Over13 L[j]) ∨ ∃ k, ∃ hk : k < L.length, Over13 L[k] ∧ ∀ j (h : j < L.length), j < k → ¬ Over13 L[j] := by
  intro n
  induction n with
  | zero => intro _; exact .inl fun j _ h => by omega
  | succ n ih =>
   intro hn
   rcases ih (by omega) with ih | ih
   ·by_cases e : Over13 (L[n]'(by omega))
    ·exact .inr ⟨n, by omega, e, ih⟩
    ·refine .inl fun j hj hjn => ?_
     by_cases ej : j = n
     ·subst ej; exact e
     ·exact ih j hj (by omega)
   ·exact .inr ih
 rcases key L.length (Nat.le_refl _) with k | ⟨k, hk, k1, k2⟩
 ·have hall : ∀ os ∈ L, ¬ Over13 os := fun os ho => by
   obtain ⟨j, hj, rfl⟩ := List.getElem_of_mem ho
   exact k j hj hj
  exact .inr ⟨⟨by omega, hall⟩, over18_no L most (by omega) hq hall⟩
 ·exact .inl ⟨.inr ⟨_, List.getElem_mem hk, k1⟩, over18_one L most (by omega) hq k hk k1 (hl _ (List.getElem_mem hk)) k2⟩
theorem few_of {os : List OpP} (h : ¬ Over13 os) : FewO os := by
 refine ⟨?_, fun o ho => ?_⟩
 ·apply Classical.byContradiction; intro e; exact h (.inl (by omega))
 ·have := fun e => h (.inr ⟨o, ho, e⟩)
  constructor <;> apply Classical.byContradiction <;> intro e <;> exact this (by omega)
theorem near18_ok (x y : Int) : ∃ A Lg : Nat, (1 ≤ A ∧ A ≤ 40 ∧ 32 ≤ Lg ∧ Lg ≤ 51) ∧ SP 39 [shI x y] (shA A Lg) := by
 obtain ⟨a, ha, ha2⟩ : ∃ a : Nat, IntKind.u64.wrap x = a ∧ a < 18446744073709551616 := by
  have : IntKind.u64.wrap x = x % 18446744073709551616 := rfl
  exact ⟨(x % 18446744073709551616).toNat, by rw [this]; omega, by omega⟩
 obtain ⟨b, hb, hb2⟩ : ∃ a : Nat, IntKind.u64.wrap y = a ∧ a < 18446744073709551616 := by
  have : IntKind.u64.wrap y = y % 18446744073709551616 := rfl
  exact ⟨(y % 18446744073709551616).toNat, by rw [this]; omega, by omega⟩
 refine ⟨1 + a % 40, 32 + b % 20, by omega, ?_⟩
 have e1 : ((1 + a % 40 : Nat) : Int) = 1 + (a : Int) % 40 := by omega
 have e2 : ((32 + b % 20 : Nat) : Int) = 32 + (b : Int) % 20 := by omega
 show SP _ _ (.ex (.agg #[.int .i64 ((1 + a % 40 : Nat) : Int), .int .i64 ((32 + b % 20 : Nat) : Int)]))
 rw [e1, e2]
 refine S_ Tryz.func39 (by kernel_rfl) rfl (Nat.le_of_ble_eq_true rfl) ?_
 show avc Tryz.prog SP _ _ _ _ _ _
 dsimp only [avc, startS, Array.toList, Tryz.f39]
 repeat' ((try conv => whnf) <;> first | refine Av.Va ?_ | (refine ⟨_, ha, ?_⟩) | (refine ⟨_, hb, ?_⟩) | exact True.intro | refine Av.Vb ?_ | exact ⟨rfl, rfl, rfl⟩ | exact ⟨rfl, rfl⟩ | (refine Av.Vc ?_ ?_ <;> intro hBr <;> first | (exfalso; omega) | (exfalso; contradiction) | (exfalso; exact hBr rfl) | skip) | refine Av.Vd ?_ | exact rfl)
theorem nil1 {f : FuncId} {ys : List AV} {r : AV} (h : SP f (.vs 0 [] :: ys) r) : SP f (nilA :: ys) r := by
 refine Sound.weak h rfl fun w F j h1 h2 x hx => ?_
 match j with
 | 0 => have := hx.ex_inv; subst this; exact .vnil _
 | j + 1 => exact hx
theorem rformat_ok {A Lg : Nat} (h : OkSh A Lg) : SP 42 [shA A Lg] (.own 9 (fmtL A Lg).length ((fmtL A Lg).map T)) := by
 have hs := h.lg
 have hN : (fmtL A Lg).length = 2 + 2 * A + Lg := by unfold fmtL; rw [List.length_set, List.length_set, newL_len]
 have c1 := rsectors_ok A Lg
 rw [show sectN (A : Int) (Lg : Int) = ((2 + 2 * A + Lg : Nat) : Int) by unfold sectN; rw [if_pos h]; omega] at c1
 have hb : (Shf.encB []).length = 4 := by rw [Shf.encB_len]; rfl
 have hn0 : npc (Shf.encB []) = 1 := npc0
 have c2 : SP 15 [nilA, U 1, Z A] (.tup [.own 9 1 [T (Av.sec (mkG 1 0) (pc enc0 0))], Z 0]) := by
  have := rslay_yes [] (by simp) (fun x hx => by cases hx) 1 A (by rw [hn0]; omega) (by omega) ⟨by omega, by omega⟩ (by omega)
  rw [hn0] at this
  exact nil1 this
 have c3 := rarea_ok (A := A) (L := Lg) (a := 0) (by omega) (by omega)
 have c4 := nil1 (rroot_gen [] (by simp) (fun x hx => by cases hx) (by omega) 1 0)
 have c5 := rrseal_ok (g := 1) (a := 0) (z := (Shf.encB []).length) (u := sumN (Shf.encB [])) ⟨by omega, by omega, by omega, by omega, by omega⟩ (sumN_lt _)
 have hF : areaA A 0 = 2 := by unfold areaA; omega
 rw [hF] at c3
 rw [hN]
 have h1 : ∀ i, (List.replicate i zK).map T ++ [T zK] = (List.replicate (i + 1) zK).map T := fun i => by rw [List.replicate_succ', List.map_append]; rfl
 have hnew : (List.replicate (2 + 2 * A + Lg) zK).map T = (newL (2 + 2 * A + Lg)).map T := rfl
 have s1 := secSet (newL (2 + 2 * A + Lg)) 2 (Av.sec (mkG 1 0) (pc enc0 0))
 have s2 := secSet ((newL (2 + 2 * A + Lg)).set 2 (Av.sec (mkG 1 0) (pc enc0 0))) 1 (rootB [] 1 0)
 have x1 := secIdx (L := newL (2 + 2 * A + Lg)) (a := 2) (by rw [newL_len]; omega)
 have x2 := secIdx (L := (newL (2 + 2 * A + Lg)).set 2 (Av.sec (mkG 1 0) (pc enc0 0))) (a := 1) (by rw [List.length_set, newL_len]; omega)
 have ef : fmtL A Lg = ((newL (2 + 2 * A + Lg)).set 2 (Av.sec (mkG 1 0) (pc enc0 0))).set 1 (rootB [] 1 0) := rfl
 rw [← ef] at s2
 have hzz : (0 : Int) ≤ 64 ∧ (64 : Int) ≤ 64 ∧ room (64 : Int).toNat (bytesT Tryz.prog 5) := ⟨by decide, by decide, by show room 64 (bytesT Tryz.prog 5); rw [show bytesT Tryz.prog 5 = 1 by kernel_rfl]; unfold room; omega⟩
 have c4 : SP 102 [nilA, U 1, Z 0] (rt 1 0 (Shf.encB []).length (sumN (Shf.encB []))) := c4
 have c5 : SP 101 [rt 1 0 (Shf.encB []).length (sumN (Shf.encB []))] (.tup [T (rootB [] 1 0), Z 0]) := c5
 clear hN hb hn0 ef
 generalize (fmtL A Lg).map T = R at *
 generalize Av.sec (mkG 1 0) (pc enc0 0) = S0 at *
 generalize rootB [] 1 0 = S1 at *
 generalize (Shf.encB []).length = z at *
 generalize sumN (Shf.encB []) = u at *
 have hNl : 2 + 2 * A + Lg ≤ 2000 := by omega
 have hN2 : 3 ≤ 2 + 2 * A + Lg := by omega
 generalize 2 + 2 * A + Lg = N at *
 have hl1 : ((newL N).set 2 S0).length = N := by rw [List.length_set, newL_len]
 refine S_ Tryz.func42 (by kernel_rfl) rfl (Nat.le_of_ble_eq_true rfl) ?_
 show avc Tryz.prog SP _ _ _ _ _ _
 dsimp only [avc, startS, Array.toList, Tryz.f42]
 repeat' ((try conv => whnf) <;> first | refine Av.Va ?_ | refine ⟨[], [0,0,2,0,14,0,0,96,224,511,1023], Av.len_ok rfl (by kernel_rfl), ?_⟩ | exact True.intro | refine Av.Vb ?_ | exact ⟨rfl, rfl, rfl⟩ | exact ⟨rfl, rfl⟩ | (refine Av.Vc ?_ ?_ <;> intro hBr <;> first | (exfalso; omega) | (exfalso; contradiction) | (exfalso; exact hBr rfl) | skip) | refine Av.Vd ?_ | exact rfl)
 refine ⟨[4, 3, 1], [(3, some 9)], fun vs bl => ∃ (i : Nat) (K : List AV), i ≤ N ∧ K = (List.replicate i zK).map T ∧ (vs = [Z i, .sl 0 i, .ptr 1 0] ∧ bl = [⟨K, some 9, false, true⟩, ⟨[Z A, Z Lg], none, false, true⟩]), muI N, ?_, ?_⟩
 ·exact ⟨0, [], by omega, rfl, rfl, rfl⟩
 rintro vs bl ⟨i, K, hi, hK, rfl, rfl⟩
 by_cases hlt : i < N
 ·have hst := h1 i
  rw [← hK] at hst
  have ap : room (i + 1) (bytesT Tryz.prog 9) ∧ K.length = i * sizeT Tryz.prog 9 ∧ ([T zK] : List AV).length = 1 * sizeT Tryz.prog 9 ∧ ∀ u ∈ ([T zK] : List AV), one1 u = true := ⟨room_s (by omega), by rw [hK, hsS, List.length_map, List.length_replicate]; omega, by rw [hsS]; rfl, one_S _⟩
  have hdec : muI N [Z ((i : Int) + 1)] [] < muI N [Z i] [] := by show N - ((i : Int) + 1).toNat < N - (i : Int).toNat; omega
  clear c2 c3 c4 c5 s1 s2 x1 x2 hnew h1 hK
  repeat' ((try conv => whnf) <;> first | refine Av.Va ?_ | refine ⟨_, c1, ?_⟩ | (refine And.intro hzz ?_) | (refine ⟨zK, ⟨zK_cells, rfl⟩, ?_⟩) | (refine ⟨true, ?_⟩) | (refine And.intro ap ?_) | refine ⟨[], [0,0,2,0,14,0,0,96,224,511,1023], Av.len_ok rfl (by kernel_rfl), ?_⟩ | exact True.intro | refine Av.Vb ?_ | exact ⟨rfl, rfl, rfl⟩ | exact ⟨rfl, rfl⟩ | (refine Av.Vc ?_ ?_ <;> intro hBr <;> first | (exfalso; omega) | (exfalso; contradiction) | (exfalso; exact hBr rfl) | skip) | refine Av.Vd ?_ | exact rfl)
  exact ⟨⟨i + 1, _, by omega, hst, rfl, rfl⟩, hdec⟩
 ·obtain rfl : i = N := by omega
  rw [hnew] at hK
  rw [← hK] at s1 x1
  clear h1 hnew hK
  generalize ((newL i).set 2 S0).map T = K1 at *
  repeat' ((try conv => whnf) <;> first | refine Av.Va ?_ | refine ⟨_, c1, ?_⟩ | refine ⟨_, c2, ?_⟩ | refine ⟨[], [0,0,2,0,14,0,0,96,224,511,1023], Av.len_ok rfl (by kernel_rfl), ?_⟩ | exact True.intro | refine Av.Vb ?_ | exact ⟨rfl, rfl, rfl⟩ | exact ⟨rfl, rfl⟩ | (refine Av.Vc ?_ ?_ <;> intro hBr <;> first | (exfalso; omega) | (exfalso; contradiction) | (exfalso; exact hBr rfl) | skip) | refine Av.Vd ?_ | exact rfl)
  have s1 : setL K (mulS ((2 : Int) + ((0 : Nat) : Int)).toNat (sizeT Tryz.prog 9)) [T S0] = K1 := s1
  have x1 : mulS ((2 : Int) + ((0 : Nat) : Int)).toNat (sizeT Tryz.prog 9) + 1 ≤ K.length := x1
  have s2 : setL K1 (mulS (1 : Int).toNat (sizeT Tryz.prog 9)) [T S1] = R := s2
  have x2 : mulS (1 : Int).toNat (sizeT Tryz.prog 9) + 1 ≤ K1.length := x2
  have c3 : SP 100 [shA A Lg, Z 0] (Z 2) := c3
  rw [← s2, ← s1]
  rw [← s1] at x2
  refine ⟨[7, 5, 3, 1], [], fun vs bl => ∃ j : Nat, (j = 0 ∧ bl = [⟨[T S0], some 9, true, true⟩, ⟨K, some 9, false, true⟩, ⟨[Z A, Z Lg], none, false, true⟩] ∨ j = 1 ∧ bl = [⟨[T S0], some 9, true, true⟩, ⟨setL K (mulS ((2 : Int) + ((0 : Nat) : Int)).toNat (sizeT Tryz.prog 9)) [T S0], some 9, false, true⟩, ⟨[Z A, Z Lg], none, false, true⟩]) ∧ vs = [Z j, .sl 0 1, .sl 1 i, .ptr 2 0], muI 1, ?_, ?_⟩
  ·exact ⟨0, .inl ⟨rfl, rfl⟩, rfl⟩
  rintro vs bl ⟨j, hj, rfl⟩
  rcases hj with ⟨rfl, rfl⟩ | ⟨rfl, rfl⟩
  ·have hat : ([T S0] : List AV)[mulS ((0 : Nat) : Int).toNat (sizeT Tryz.prog 9)]? = some (T S0) := by rw [hsS]; rfl
   have hdec : muI 1 [Z (((0 : Nat) : Int) + 1)] [] < muI 1 [Z ((0 : Nat) : Int)] [] := by decide
   repeat' ((try conv => whnf) <;> first | refine Av.Va ?_ | refine ⟨_, c3, ?_⟩ | (refine ⟨_, hat, ?_⟩) | (refine And.intro x1 ?_) | refine ⟨[], [0,0,2,0,14,0,0,96,224,511,1023], Av.len_ok rfl (by kernel_rfl), ?_⟩ | exact True.intro | refine Av.Vb ?_ | exact ⟨rfl, rfl, rfl⟩ | exact ⟨rfl, rfl⟩ | (refine Av.Vc ?_ ?_ <;> intro hBr <;> first | (exfalso; omega) | (exfalso; contradiction) | (exfalso; exact hBr rfl) | skip) | refine Av.Vd ?_ | exact rfl)
   exact ⟨⟨1, .inr ⟨rfl, rfl⟩, rfl⟩, hdec⟩
  ·repeat' ((try conv => whnf) <;> first | refine Av.Va ?_ | refine ⟨_, c4, ?_⟩ | refine ⟨_, c5, ?_⟩ | (refine And.intro x2 ?_) | refine ⟨[], [0,0,2,0,14,0,0,96,224,511,1023], Av.len_ok rfl (by kernel_rfl), ?_⟩ | exact True.intro | refine Av.Vb ?_ | exact ⟨rfl, rfl, rfl⟩ | exact ⟨rfl, rfl⟩ | (refine Av.Vc ?_ ?_ <;> intro hBr <;> first | (exfalso; omega) | (exfalso; contradiction) | (exfalso; exact hBr rfl) | skip) | refine Av.Vd ?_ | exact rfl)
abbrev yB (A L : Nat) (n : Nat) (C : List AV) (g a pl : Nat) : ABlk := ⟨[Z A, Z L, .vs n C, U g, Z a, Z pl], none, false, true⟩
abbrev yA (A L : Nat) (n : Nat) (C : List AV) (g a pl : Nat) : AV := .agg [Z A, Z L, .vs n C, U g, Z a, Z pl]
theorem plans_both {A L : Nat} {t : Tr} (hf : Fit A t) (hL : 32 ≤ L ∧ L ≤ 256) (g a z u pl : Nat) (hg : 1 ≤ g ∧ g + 1 < 1099511627776) (ha : a ≤ 1) (hp : pl ≤ L) (os : List OpP) (ho : FewO os) (he : fitsE A t.toL os = 0) :
  ∃ (n : Nat) (D : List Dd) (g2 a2 z2 u2 pl2 : Nat), n = D.length ∧ (g ≤ g2 ∧ g2 ≤ g + 1) ∧ a2 ≤ 1 ∧ pl2 ≤ L ∧ D.length ≤ 100000 ∧
   SM 47 [.ptr 0 0, bcA os] [stB A L t g a z u pl none] [.ptr 0 0] (.tup [.sl 1 n, Z 0]) [stB A L t g2 a2 z2 u2 pl2 (some (Tr.apply os t)), ⟨ddC D, some 174, false, true⟩] ∧
   SP 48 [yA A L t.toL.length (prC t.toL) g a pl, bcA os] (.tup [.own 173 n (ddC D), yA A L t.toL.length (prC t.toL) g2 a2 pl2, Z 0]) := by
 obtain ⟨x0, x1⟩ := enc_len (fits_enc he).1
 have hsz := szT_good ⟨x0, x1⟩
 have hA := hf.top
 by_cases hk : szT (encOps os).1.length ≤ L - pl
 ·have c := splan_room hf g a z u pl (L := L) ⟨by omega, by omega⟩ os ho he (by omega) hp hk
  have d := rplan_room hf.list L g a pl ⟨by omega, by omega⟩ os ho he (by omega) hp hk
  rw [show (pl : Int) + (szT (encOps os).1.length : Int) = ((pl + szT (encOps os).1.length : Nat) : Int) by omega] at d
  refine ⟨_, _, g, a, z, u, _, ?_, ⟨by omega, by omega⟩, ha, by omega, ?_, c, d⟩
  ·rw [List.length_append, lgD_len]; rfl
  ·rw [List.length_append, lgD_len]; show szT (encOps os).1.length + 1 ≤ _; omega
 ·have c := splan_anew hf g a z u pl (L := L) ⟨by omega, by omega⟩ os ho he (by omega) hp (by omega) (by omega) (by omega) ha
  have d := rplan_anew hf.list L g a pl ⟨by omega, by omega⟩ ha os ho he (by omega) hp (by omega) (by omega)
  rw [show (1 : Int) - (a : Int) = ((1 - a : Nat) : Int) by omega, show (0 : Int) + (szT (encOps os).1.length : Int) = ((0 + szT (encOps os).1.length : Nat) : Int) by omega] at d
  have hfit := hf.fit
  refine ⟨_, _, g + 1, 1 - a, (Shf.encB t.toL).length, sumN (Shf.encB t.toL), _, ?_, ⟨by omega, by omega⟩, by omega, by omega, ?_, c, d⟩
  ·rw [List.length_append, List.length_append, lgD_len, layD_len]; rfl
  ·rw [List.length_append, List.length_append, lgD_len, layD_len]; show npc (Shf.encB t.toL) + 3 + szT (encOps os).1.length + 1 ≤ _; omega
theorem rplan_no2 {A : Nat} {t : Tr} (hf : Fit A t) (L g a pl : Nat) (os : List OpP) (ho : FewO os) (h : fitsE A t.toL os ≠ 0) : SP 48 [yA A L t.toL.length (prC t.toL) g a pl, bcA os] (.tup [nilA, yA A L t.toL.length (prC t.toL) g a pl, Z (fitsE A t.toL os)]) := rplan_no hf.list L g a pl os ho h
theorem rfits_2 {A : Nat} {t : Tr} (hf : Fit A t) (L g a pl : Nat) (os : List OpP) (ho : FewO os) : SP 46 [yA A L t.toL.length (prC t.toL) g a pl, bcA os] (Z (fitsE A t.toL os)) := rfitsE_ok hf.list L g a pl os ho
theorem like18_2 {A L : Nat} {t : Tr} (hf : Fit A t) (hA : A ≤ 83) (hL : L ≤ 1000) (g a z u pl : Nat) (hg : 1 ≤ g) (hpl : pl ≤ 1000) (nx : Option Tr) :
  SM 33 [.ptr 0 0, yA A L t.toL.length (prC t.toL) g a pl, .vs t.toL.length (prC t.toL)] [stB A L t g a z u pl nx] [.ptr 0 0] (B true) [stB A L t g a z u pl nx] := like18_ok hf hA hL g a z u pl hg hpl nx a t.toL rfl
theorem boolAt {bs : List Bool} {i : Nat} (h : i < bs.length) : (bs.map B)[mulS (i : Int).toNat (sizeT Tryz.prog 4)]? = some (B bs[i]) := by
 rw [show sizeT Tryz.prog 4 = 1 by kernel_rfl, mulS_eq, Nat.mul_one, Int.toNat_natCast, List.getElem?_map, List.getElem?_eq_getElem h]; rfl
theorem samedE : SP 26 [.vs 0 [], nilA] (B true) := by
 refine Sound.weak (samed_ok [] (by decide)) rfl fun w F j h1 h2 x hx => ?_
 match j, h1 with
 | 0, _ => exact hx
 | 1, _ => have := hx.ex_inv; subst this; exact .vnil _
structure PlS (A Lg i : Nat) (t : Tr) (g a pl : Nat) : Prop where
 fit : Fit A t
 gg : 1 ≤ g ∧ g ≤ 2 + i
 aa : a ≤ 1
 pp : pl ≤ Lg
theorem splans_in (A Lg : Nat) (hsh : 1 ≤ A ∧ A ≤ 40 ∧ 32 ≤ Lg ∧ Lg ≤ 51) (x y : Int) (cn : SP 39 [shI x y] (shA A Lg)) (Ls : List (List OpP)) (hn : Ls.length ≤ 30) (hall : ∀ os ∈ Ls, ¬ Over13 os)
  (co : SP 40 [bchA Ls, Z 30] (B false)) (bs : List Bool) (hb : bs.length ≤ 9223372036854775807) : SP 6 [shI x y, bchA Ls, .vs bs.length (bs.map B)] (B true) := by
 have h : OkSh A Lg := by unfold OkSh; omega
 have aw := awake18_ok
 obtain ⟨f1, f2, f3⟩ := fmt_run h
 have c1 := format_ok h _ _ f1 f2
 have c2 := rformat_ok h
 have hl := f3.dev.len
 have c3 := dpending_ok .nil (fmtL A Lg) [] 2 rfl
 have c4 := sectors18_ok .nil rfl (fmtL A Lg) [] 2 (by omega)
 have c5 := same18_ok (fmtL A Lg) (by omega)
 obtain ⟨hg, ha, hfl, R, hR, hRl, c6, c7⟩ := recS_ok (q := .nil) (P := []) (w := 2) h hl rfl f3.sv.recd
 have hn0 : npc (Shf.encB []) = 1 := npc0
 have hDl := anewD_len A [] 1 0
 have c8 := back18_ok (anewD A [] 1 0) (by rw [hDl, hn0]; omega)
 have c9 := samed_ok (anewD A [] 1 0) (by rw [hDl, hn0]; omega)
 have c10 := like18_2 hR (L := Lg) (by omega) (by omega) 2 1 (Shf.encB []).length (sumN (Shf.encB [])) 0 (by omega) (by omega) none
 rw [hRl] at c10
 rw [hDl, hn0] at c8 c9
 rw [hn0] at c6 c7
 have c6 : SM 20 [.ptr 0 0, shA A Lg] [headB (fmtL A Lg).length nilA 2, secB (fmtL A Lg)] [.ptr 0 0] (.tup [.ptr 1 0, .sl 2 4, Z 0]) [headN 3 (fmtL A Lg).length nilA 2, stB A Lg R 2 1 (Shf.encB []).length (sumN (Shf.encB [])) 0 none, ⟨ddC (anewD A [] 1 0), some 174, false, true⟩, secB (fmtL A Lg)] := c6
 have c7 : SP 25 [lsA (fmtL A Lg), shA A Lg] (.tup [yA A Lg 0 [] 2 1 0, .own 173 4 (ddC (anewD A [] 1 0)), Z 0]) := c7
 have c4 : SM 24 [.ptr 0 0] [headB (fmtL A Lg).length nilA 2, secB (fmtL A Lg)] [.ptr 0 0] (.sl 1 (fmtL A Lg).length) [headN 2 (fmtL A Lg).length nilA 2, ⟨(fmtL A Lg).map T, some 9, false, true⟩, secB (fmtL A Lg)] := c4
 have c3 : SM 43 [.ptr 0 0] [headB (fmtL A Lg).length nilA 2, secB (fmtL A Lg)] [.ptr 0 0] (Z 0) [headB (fmtL A Lg).length nilA 2, secB (fmtL A Lg)] := c3
 have c1 : SM 41 [shA A Lg] [] [] (.tup [.ptr 0 0, Z 0]) [headB (fmtL A Lg).length nilA 2, secB (fmtL A Lg)] := c1
 have c10 : SM 33 [.ptr 0 0, yA A Lg 0 [] 2 1 0, .vs 0 []] [stB A Lg R 2 1 (Shf.encB []).length (sumN (Shf.encB [])) 0 none] [.ptr 0 0] (B true) [stB A Lg R 2 1 (Shf.encB []).length (sumN (Shf.encB [])) 0 none] := c10
 have hrow := fun i (hi : i < Ls.length) => bchAt hi
 have hbool := fun i (hi : i < bs.length) => boolAt hi
 have hmu : ∀ i : Nat, i < Ls.length → muI Ls.length [Z ((i : Int) + 1)] [] < muI Ls.length [Z i] [] := fun i hi => by show Ls.length - ((i : Int) + 1).toNat < Ls.length - (i : Int).toNat; omega
 clear f1 f2 f3 hDl hn0 hfl hg ha
 generalize ddC (anewD A [] 1 0) = D0 at *
 generalize (Shf.encB []).length = z0 at *
 generalize sumN (Shf.encB []) = u0 at *
 have hfl : (fmtL A Lg).length ≤ 2000 := by omega
 clear hl
 generalize fmtL A Lg = L0 at *
 obtain ⟨C, hC⟩ : ∃ C, C = Ls.map bcA := ⟨_, rfl⟩
 obtain ⟨Bs, hBs⟩ : ∃ Bs, Bs = bs.map B := ⟨_, rfl⟩
 rw [← hC] at hrow
 rw [← hBs] at hbool
 have co : SP 40 [.vs Ls.length C, Z 30] (B false) := by rw [hC]; exact co
 show SP _ [_, .vs Ls.length (Ls.map bcA), .vs bs.length (bs.map B)] _
 rw [← hC, ← hBs]
 clear hC hBs
 refine S_ Tryz.func6 (by kernel_rfl) rfl (Nat.le_of_ble_eq_true rfl) ?_
 show avc Tryz.prog SP _ _ _ _ _ _
 dsimp only [avc, startS, Array.toList, Tryz.f6]
 repeat' ((try conv => whnf) <;> first | refine Av.Va ?_ | refine ⟨_, cn, ?_⟩ | refine ⟨_, co, ?_⟩ | refine ⟨_, _, _, c1, ?_⟩ | refine ⟨_, c2, ?_⟩ | refine ⟨_, _, _, c3, ?_⟩ | refine ⟨_, _, _, c4, ?_⟩ | refine ⟨_, c5, ?_⟩ | refine ⟨[], [0,0,0,6,14,31,63,127,127,127,0,1279,3583,8191], Av.len_ok rfl (by kernel_rfl), ?_⟩ | refine ⟨[], [0,0,3,0,0,0,48,112,255,511], Av.len_ok rfl (by kernel_rfl), ?_⟩ | refine ⟨[], [0,1,0,0,12,28,63,127], Av.len_ok rfl (by kernel_rfl), ?_⟩ | exact True.intro | refine Av.Vb ?_ | exact ⟨rfl, rfl, rfl⟩ | exact ⟨rfl, rfl⟩ | (refine Av.Vc ?_ ?_ <;> intro hBr <;> first | (exfalso; omega) | (exfalso; contradiction) | (exfalso; exact hBr rfl) | skip) | refine Av.Vd ?_ | exact rfl)
 try dsimp only [List.length_cons, List.length_nil, Nat.reduceAdd, Nat.add_eq]
 repeat' ((try conv => whnf) <;> first | refine Av.Va ?_ | refine ⟨_, _, _, c6, ?_⟩ | refine ⟨_, c7, ?_⟩ | refine ⟨[], [0,0,0,6,14,31,63,127,127,127,0,1279,3583,8191], Av.len_ok rfl (by kernel_rfl), ?_⟩ | refine ⟨[], [0,0,3,0,0,0,48,112,255,511], Av.len_ok rfl (by kernel_rfl), ?_⟩ | refine ⟨[], [0,1,0,0,12,28,63,127], Av.len_ok rfl (by kernel_rfl), ?_⟩ | exact True.intro | refine Av.Vb ?_ | exact ⟨rfl, rfl, rfl⟩ | exact ⟨rfl, rfl⟩ | (refine Av.Vc ?_ ?_ <;> intro hBr <;> first | (exfalso; omega) | (exfalso; contradiction) | (exfalso; exact hBr rfl) | skip) | refine Av.Vd ?_ | exact rfl)
 try dsimp only [List.length_cons, List.length_nil, Nat.reduceAdd, Nat.add_eq]
 repeat' ((try conv => whnf) <;> first | refine Av.Va ?_ | refine ⟨_, c8, ?_⟩ | refine ⟨_, c9, ?_⟩ | refine ⟨[], [0,0,0,6,14,31,63,127,127,127,0,1279,3583,8191], Av.len_ok rfl (by kernel_rfl), ?_⟩ | refine ⟨[], [0,0,3,0,0,0,48,112,255,511], Av.len_ok rfl (by kernel_rfl), ?_⟩ | refine ⟨[], [0,1,0,0,12,28,63,127], Av.len_ok rfl (by kernel_rfl), ?_⟩ | exact True.intro | refine Av.Vb ?_ | exact ⟨rfl, rfl, rfl⟩ | exact ⟨rfl, rfl⟩ | (refine Av.Vc ?_ ?_ <;> intro hBr <;> first | (exfalso; omega) | (exfalso; contradiction) | (exfalso; exact hBr rfl) | skip) | refine Av.Vd ?_ | exact rfl)
 try dsimp only [List.length_cons, List.length_nil, Nat.reduceAdd, Nat.add_eq]
 repeat' ((try conv => whnf) <;> first | refine Av.Va ?_ | refine ⟨_, _, _, c10, ?_⟩ | refine ⟨[], [0,0,0,6,14,31,63,127,127,127,0,1279,3583,8191], Av.len_ok rfl (by kernel_rfl), ?_⟩ | refine ⟨[], [0,0,3,0,0,0,48,112,255,511], Av.len_ok rfl (by kernel_rfl), ?_⟩ | refine ⟨[], [0,1,0,0,12,28,63,127], Av.len_ok rfl (by kernel_rfl), ?_⟩ | exact True.intro | refine Av.Vb ?_ | exact ⟨rfl, rfl, rfl⟩ | exact ⟨rfl, rfl⟩ | (refine Av.Vc ?_ ?_ <;> intro hBr <;> first | (exfalso; omega) | (exfalso; contradiction) | (exfalso; exact hBr rfl) | skip) | refine Av.Vd ?_ | exact rfl)
 clear cn co c1 c2 c3 c4 c5 c6 c7 c8 c9 c10
 refine ⟨[19, 1, 2, 11, 14, 17, 18], [], fun vs bl => ∃ (i : Nat) (t : Tr) (g a z u pl : Nat) (nx : Option Tr) (op : Bool) (nv : AV), i ≤ Ls.length ∧ PlS A Lg i t g a pl ∧ (op = false ∧ nx = none ∨ op = true ∧ ∃ t', nx = some t' ∧ Fit A t' ∧ nv = .vs t'.toL.length (prC t'.toL)) ∧
  (vs = [Z i, .vs Ls.length C, .vs bs.length Bs, .ptr 0 0, .ptr 1 0, B op, nv] ∧ bl = [stB A Lg t g a z u pl nx, yB A Lg t.toL.length (prC t.toL) g a pl]), muI Ls.length, ?_, ?_⟩
 ·refine ⟨0, R, 2, 1, z0, u0, 0, none, false, nilA, by omega, ⟨hR, by omega, by omega, by omega⟩, .inl ⟨rfl, rfl⟩, rfl, ?_⟩
  rw [hRl]; rfl
 clear hR hRl
 rintro vs bl ⟨i, t, g, a, z, u, pl, nx, op, nv, hi, hs, hcase, rfl, rfl⟩
 by_cases hlt : i < Ls.length
 ·have hat := hrow i hlt
  have hap := hbool i
  have hdec := hmu i hlt
  have ho := few_of (hall _ (List.getElem_mem hlt))
  have c1 := own13_ok Ls[i] (by have := ho.1; omega)
  have hf := hs.fit
  have hgg := hs.gg
  have haa := hs.aa
  have hpp := hs.pp
  have cf := sfits_ok (L := Lg) hf g a z u pl nx hgg.1 Ls[i] ho
  have cr := rfits_2 hf Lg g a pl Ls[i] ho
  have ca := papply_fit hf.list ho
  have hs2 : PlS A Lg (i + 1) t g a pl := ⟨hf, by omega, haa, hpp⟩
  clear hrow hbool hmu hall
  generalize Ls[i] = os at *
  rcases hcase with ⟨rfl, rfl⟩ | ⟨rfl, t', rfl, hf', rfl⟩
  ·by_cases he : fitsE A t.toL os ≠ 0
   ·have cp := splan_no A Lg t g a z u pl hf hgg.1 os ho he
    have dp := rplan_no2 hf Lg g a pl os ho he
    have ck := like18_2 hf (L := Lg) (by omega) (by omega) g a z u pl hgg.1 (by omega) none
    have cn := sapply_no A Lg t g a z u pl hgg.1
    have b1 := back18_nil
    have b2 := samedE
    have hz : (fitsE A t.toL os == 0) = false := by simp [he]
    have hz2 : (((9 : Int) == 0) == (fitsE A t.toL os == 0)) = true := by rw [hz]; rfl
    clear hf hs ho
    generalize fitsE A t.toL os = e at *
    generalize prC (applyL os t.toL) = E2 at *
    generalize (applyL os t.toL).length = m2 at *
    by_cases hib : i < bs.length
    ·have hap := hap hib
     generalize bs[i] = bv at *
     cases bv
     all_goals
      repeat' ((try conv => whnf) <;> first | refine Av.Va ?_ | (refine ⟨_, hat, ?_⟩) | (refine ⟨_, hap, ?_⟩) | refine ⟨_, c1, ?_⟩ | refine ⟨_, _, _, cf, ?_⟩ | refine ⟨_, cr, ?_⟩ | refine ⟨_, _, _, cp, ?_⟩ | refine ⟨_, dp, ?_⟩ | refine ⟨_, b1, ?_⟩ | refine ⟨_, b2, ?_⟩ | refine ⟨_, ca, ?_⟩ | refine ⟨_, _, _, ck, ?_⟩ | refine ⟨_, _, _, cn, ?_⟩ | (refine br_f hz ?_) | (refine br_fr hz ?_) | (refine br_t hz2 ?_) | (refine br_tr hz2 ?_) | refine ⟨[], [0,0,0,6,14,31,63,127,127,127,0,1279,3583,8191], Av.len_ok rfl (by kernel_rfl), ?_⟩ | refine ⟨[], [0,0,3,0,0,0,48,112,255,511], Av.len_ok rfl (by kernel_rfl), ?_⟩ | refine ⟨[], [0,1,0,0,12,28,63,127], Av.len_ok rfl (by kernel_rfl), ?_⟩ | exact True.intro | refine Av.Vb ?_ | exact ⟨rfl, rfl, rfl⟩ | exact ⟨rfl, rfl⟩ | (refine Av.Vc ?_ ?_ <;> intro hBr <;> first | (exfalso; omega) | (exfalso; contradiction) | (exfalso; exact hBr rfl) | skip) | refine Av.Vd ?_ | exact rfl)
     all_goals exact ⟨⟨i + 1, t, g, a, z, u, pl, none, _, _, by omega, hs2, .inl ⟨by first | exact hz | rfl, rfl⟩, rfl, rfl⟩, hdec⟩
    ·clear hap
     repeat' ((try conv => whnf) <;> first | refine Av.Va ?_ | (refine ⟨_, hat, ?_⟩) | refine ⟨_, c1, ?_⟩ | refine ⟨_, _, _, cf, ?_⟩ | refine ⟨_, cr, ?_⟩ | refine ⟨_, _, _, cp, ?_⟩ | refine ⟨_, dp, ?_⟩ | refine ⟨_, b1, ?_⟩ | refine ⟨_, b2, ?_⟩ | refine ⟨_, ca, ?_⟩ | refine ⟨_, _, _, ck, ?_⟩ | refine ⟨_, _, _, cn, ?_⟩ | (refine br_f hz ?_) | (refine br_fr hz ?_) | (refine br_t hz2 ?_) | (refine br_tr hz2 ?_) | refine ⟨[], [0,0,0,6,14,31,63,127,127,127,0,1279,3583,8191], Av.len_ok rfl (by kernel_rfl), ?_⟩ | refine ⟨[], [0,0,3,0,0,0,48,112,255,511], Av.len_ok rfl (by kernel_rfl), ?_⟩ | refine ⟨[], [0,1,0,0,12,28,63,127], Av.len_ok rfl (by kernel_rfl), ?_⟩ | exact True.intro | refine Av.Vb ?_ | exact ⟨rfl, rfl, rfl⟩ | exact ⟨rfl, rfl⟩ | (refine Av.Vc ?_ ?_ <;> intro hBr <;> first | (exfalso; omega) | (exfalso; contradiction) | (exfalso; exact hBr rfl) | skip) | refine Av.Vd ?_ | exact rfl)
     all_goals exact ⟨⟨i + 1, t, g, a, z, u, pl, none, _, _, by omega, hs2, .inl ⟨by first | exact hz | rfl, rfl⟩, rfl, rfl⟩, hdec⟩
   ·have he : fitsE A t.toL os = 0 := by simpa using he
    have hfa := hf.applied (fits_enc he).2
    have hta := (hf.apply os).2
    obtain ⟨n, D, g2, a2, z2, u2, pl2, hn2, hg2, ha2, hp2, hD2, cp, dp⟩ := plans_both hf (by omega) g a z u pl ⟨by omega, by omega⟩ haa hpp os ho he
    have b1 := back18_ok D hD2
    have b2 := samed_ok D hD2
    rw [← hn2] at b1 b2
    have ck := like18_2 hf (L := Lg) (by omega) (by omega) g2 a2 z2 u2 pl2 (by omega) (by omega) (some (Tr.apply os t))
    have ck2 := like18_2 hfa (L := Lg) (by omega) (by omega) g2 a2 z2 u2 pl2 (by omega) (by omega) none
    have cn := sapply_ok A Lg t g2 a2 z2 u2 pl2 (by omega) (Tr.apply os t)
    have hs3 : PlS A Lg (i + 1) t g2 a2 pl2 := ⟨hf, by omega, ha2, hp2⟩
    have hs4 : PlS A Lg (i + 1) (Tr.apply os t) g2 a2 pl2 := ⟨hfa, by omega, ha2, hp2⟩
    rw [he] at cf cr
    rw [← hta] at ca
    clear hf hs ho he hta hn2 hD2 hs2
    generalize Tr.apply os t = t2 at *
    generalize ddC D = DC at *
    by_cases hib : i < bs.length
    ·have hap := hap hib
     generalize bs[i] = bv at *
     cases bv
     all_goals
      repeat' ((try conv => whnf) <;> first | refine Av.Va ?_ | (refine ⟨_, hat, ?_⟩) | (refine ⟨_, hap, ?_⟩) | refine ⟨_, c1, ?_⟩ | refine ⟨_, _, _, cf, ?_⟩ | refine ⟨_, cr, ?_⟩ | refine ⟨_, _, _, cp, ?_⟩ | refine ⟨_, dp, ?_⟩ | refine ⟨_, b1, ?_⟩ | refine ⟨_, b2, ?_⟩ | refine ⟨_, ca, ?_⟩ | refine ⟨_, _, _, ck, ?_⟩ | refine ⟨_, _, _, cn, ?_⟩ | refine ⟨_, _, _, ck2, ?_⟩ | refine ⟨[], [0,0,0,6,14,31,63,127,127,127,0,1279,3583,8191], Av.len_ok rfl (by kernel_rfl), ?_⟩ | refine ⟨[], [0,0,3,0,0,0,48,112,255,511], Av.len_ok rfl (by kernel_rfl), ?_⟩ | refine ⟨[], [0,1,0,0,12,28,63,127], Av.len_ok rfl (by kernel_rfl), ?_⟩ | exact True.intro | refine Av.Vb ?_ | exact ⟨rfl, rfl, rfl⟩ | exact ⟨rfl, rfl⟩ | (refine Av.Vc ?_ ?_ <;> intro hBr <;> first | (exfalso; omega) | (exfalso; contradiction) | (exfalso; exact hBr rfl) | skip) | refine Av.Vd ?_ | exact rfl)
     all_goals first | exact ⟨⟨i + 1, t, g2, a2, z2, u2, pl2, some t2, _, _, by omega, hs3, .inr ⟨rfl, t2, rfl, hfa, rfl⟩, rfl, rfl⟩, hdec⟩ | exact ⟨⟨i + 1, t2, g2, a2, z2, u2, pl2, none, _, _, by omega, hs4, .inl ⟨rfl, rfl⟩, rfl, rfl⟩, hdec⟩
    ·clear hap
     repeat' ((try conv => whnf) <;> first | refine Av.Va ?_ | (refine ⟨_, hat, ?_⟩) | refine ⟨_, c1, ?_⟩ | refine ⟨_, _, _, cf, ?_⟩ | refine ⟨_, cr, ?_⟩ | refine ⟨_, _, _, cp, ?_⟩ | refine ⟨_, dp, ?_⟩ | refine ⟨_, b1, ?_⟩ | refine ⟨_, b2, ?_⟩ | refine ⟨_, ca, ?_⟩ | refine ⟨_, _, _, ck, ?_⟩ | refine ⟨_, _, _, cn, ?_⟩ | refine ⟨_, _, _, ck2, ?_⟩ | refine ⟨[], [0,0,0,6,14,31,63,127,127,127,0,1279,3583,8191], Av.len_ok rfl (by kernel_rfl), ?_⟩ | refine ⟨[], [0,0,3,0,0,0,48,112,255,511], Av.len_ok rfl (by kernel_rfl), ?_⟩ | refine ⟨[], [0,1,0,0,12,28,63,127], Av.len_ok rfl (by kernel_rfl), ?_⟩ | exact True.intro | refine Av.Vb ?_ | exact ⟨rfl, rfl, rfl⟩ | exact ⟨rfl, rfl⟩ | (refine Av.Vc ?_ ?_ <;> intro hBr <;> first | (exfalso; omega) | (exfalso; contradiction) | (exfalso; exact hBr rfl) | skip) | refine Av.Vd ?_ | exact rfl)
     exact ⟨⟨i + 1, t2, g2, a2, z2, u2, pl2, none, _, _, by omega, hs4, .inl ⟨rfl, rfl⟩, rfl, rfl⟩, hdec⟩
  ·have cp := splan_state A Lg t g a z u pl hgg.1 t' os
   have ck := like18_2 hf (L := Lg) (by omega) (by omega) g a z u pl hgg.1 (by omega) (some t')
   have ck2 := like18_2 hf' (L := Lg) (by omega) (by omega) g a z u pl hgg.1 (by omega) none
   have cn := sapply_ok A Lg t g a z u pl hgg.1 t'
   have hs4 : PlS A Lg (i + 1) t' g a pl := ⟨hf', by omega, haa, hpp⟩
   clear hf hs ho ca
   generalize fitsE A t.toL os = e at *
   by_cases hib : i < bs.length
   ·have hap := hap hib
    generalize bs[i] = bv at *
    cases bv
    all_goals
     repeat' ((try conv => whnf) <;> first | refine Av.Va ?_ | (refine ⟨_, hat, ?_⟩) | (refine ⟨_, hap, ?_⟩) | refine ⟨_, c1, ?_⟩ | refine ⟨_, _, _, cf, ?_⟩ | refine ⟨_, cr, ?_⟩ | refine ⟨_, _, _, cp, ?_⟩ | refine ⟨_, _, _, ck, ?_⟩ | refine ⟨_, _, _, cn, ?_⟩ | refine ⟨_, _, _, ck2, ?_⟩ | refine ⟨[], [0,0,0,6,14,31,63,127,127,127,0,1279,3583,8191], Av.len_ok rfl (by kernel_rfl), ?_⟩ | refine ⟨[], [0,0,3,0,0,0,48,112,255,511], Av.len_ok rfl (by kernel_rfl), ?_⟩ | refine ⟨[], [0,1,0,0,12,28,63,127], Av.len_ok rfl (by kernel_rfl), ?_⟩ | exact True.intro | refine Av.Vb ?_ | exact ⟨rfl, rfl, rfl⟩ | exact ⟨rfl, rfl⟩ | (refine Av.Vc ?_ ?_ <;> intro hBr <;> first | (exfalso; omega) | (exfalso; contradiction) | (exfalso; exact hBr rfl) | skip) | refine Av.Vd ?_ | exact rfl)
    all_goals first | exact ⟨⟨i + 1, t, g, a, z, u, pl, some t', _, _, by omega, hs2, .inr ⟨rfl, t', rfl, hf', rfl⟩, rfl, rfl⟩, hdec⟩ | exact ⟨⟨i + 1, t', g, a, z, u, pl, none, _, _, by omega, hs4, .inl ⟨rfl, rfl⟩, rfl, rfl⟩, hdec⟩
   ·clear hap
    repeat' ((try conv => whnf) <;> first | refine Av.Va ?_ | (refine ⟨_, hat, ?_⟩) | refine ⟨_, c1, ?_⟩ | refine ⟨_, _, _, cf, ?_⟩ | refine ⟨_, cr, ?_⟩ | refine ⟨_, _, _, cp, ?_⟩ | refine ⟨_, _, _, ck, ?_⟩ | refine ⟨_, _, _, cn, ?_⟩ | refine ⟨_, _, _, ck2, ?_⟩ | refine ⟨[], [0,0,0,6,14,31,63,127,127,127,0,1279,3583,8191], Av.len_ok rfl (by kernel_rfl), ?_⟩ | refine ⟨[], [0,0,3,0,0,0,48,112,255,511], Av.len_ok rfl (by kernel_rfl), ?_⟩ | refine ⟨[], [0,1,0,0,12,28,63,127], Av.len_ok rfl (by kernel_rfl), ?_⟩ | exact True.intro | refine Av.Vb ?_ | exact ⟨rfl, rfl, rfl⟩ | exact ⟨rfl, rfl⟩ | (refine Av.Vc ?_ ?_ <;> intro hBr <;> first | (exfalso; omega) | (exfalso; contradiction) | (exfalso; exact hBr rfl) | skip) | refine Av.Vd ?_ | exact rfl)
    exact ⟨⟨i + 1, t', g, a, z, u, pl, none, _, _, by omega, hs4, .inl ⟨rfl, rfl⟩, rfl, rfl⟩, hdec⟩
 ·obtain rfl : i = Ls.length := by omega
  clear hcase hs hrow hbool hmu hall
  repeat' ((try conv => whnf) <;> first | refine Av.Va ?_ | refine ⟨_, aw, ?_⟩ | refine ⟨[], [0,0,0,6,14,31,63,127,127,127,0,1279,3583,8191], Av.len_ok rfl (by kernel_rfl), ?_⟩ | refine ⟨[], [0,0,3,0,0,0,48,112,255,511], Av.len_ok rfl (by kernel_rfl), ?_⟩ | refine ⟨[], [0,1,0,0,12,28,63,127], Av.len_ok rfl (by kernel_rfl), ?_⟩ | exact True.intro | refine Av.Vb ?_ | exact ⟨rfl, rfl, rfl⟩ | exact ⟨rfl, rfl⟩ | (refine Av.Vc ?_ ?_ <;> intro hBr <;> first | (exfalso; omega) | (exfalso; contradiction) | (exfalso; exact hBr rfl) | skip) | refine Av.Vd ?_ | exact rfl)
theorem splans_over (x y : Int) (A Lg : Nat) (Ls : List (List OpP)) (bs : List Bool) (cn : SP 39 [shI x y] (shA A Lg)) (co : SP 40 [bchA Ls, Z 30] (B true)) : SP 6 [shI x y, bchA Ls, .vs bs.length (bs.map B)] (B true) := by
 have aw := awake18_ok
 refine S_ Tryz.func6 (by kernel_rfl) rfl (Nat.le_of_ble_eq_true rfl) ?_
 show avc Tryz.prog SP _ _ _ _ _ _
 dsimp only [avc, startS, Array.toList, Tryz.f6]
 repeat' ((try conv => whnf) <;> first | refine Av.Va ?_ | refine ⟨_, cn, ?_⟩ | refine ⟨_, co, ?_⟩ | refine ⟨_, aw, ?_⟩ | refine ⟨[], [0,0,0,6,14,31,63,127,127,127,0,1279,3583,8191], Av.len_ok rfl (by kernel_rfl), ?_⟩ | refine ⟨[], [0,0,3,0,0,0,48,112,255,511], Av.len_ok rfl (by kernel_rfl), ?_⟩ | refine ⟨[], [0,1,0,0,12,28,63,127], Av.len_ok rfl (by kernel_rfl), ?_⟩ | exact True.intro | refine Av.Vb ?_ | exact ⟨rfl, rfl, rfl⟩ | exact ⟨rfl, rfl⟩ | (refine Av.Vc ?_ ?_ <;> intro hBr <;> first | (exfalso; omega) | (exfalso; contradiction) | (exfalso; exact hBr rfl) | skip) | refine Av.Vd ?_ | exact rfl)
theorem splans_ok (x y : Int) (Ls : List (List OpP)) (hl : ∀ os ∈ Ls, os.length ≤ 9223372036854775807) (bs : List Bool) (hb : bs.length ≤ 9223372036854775807) : SP 6 [shI x y, bchA Ls, .vs bs.length (bs.map B)] (B true) := by
 obtain ⟨A, Lg, hs, cn⟩ := near18_ok x y
 rcases over18_ok Ls 30 (by omega) hl with ⟨_, co⟩ | ⟨⟨h1, h2⟩, co⟩
 ·exact splans_over x y A Lg Ls bs cn co
 ·exact splans_in A Lg hs x y cn Ls h1 h2 co bs hb
end Go.Proofs.YtbaedepmogkkeaaGreat.Av
namespace Go.Proofs.YtbaedepmogkkeaaGreat.Av
open Go Go.RowKit Tre
set_option linter.unusedVariables false
set_option linter.unusedSimpArgs false
theorem row1 {r : List AV} {k : KT} (hl : r.length = 1) (h : ∀ (i : Nat) k' v, [k][i]? = some k' → r[i]? = some v → AvK k' v) : ∃ v, r = [v] ∧ AvK k v := by
 match r, hl with
 | [v], _ => exact ⟨v, rfl, h 0 k v rfl rfl⟩
theorem avk_bools {v : AV} (h : AvK (.sl [.bool]) v) : ∃ bs : List Bool, v = .vs bs.length (bs.map B) ∧ bs.length ≤ 9223372036854775807 := by
 obtain ⟨rows, rfl, hn, hl, hk⟩ := h.sl_
 obtain ⟨bs, h1, h2, h3⟩ := rows_list (rows := rows) (fun b : Bool => [B b]) (fun _ => True) fun r hr => by
  obtain ⟨v, rfl, hv⟩ := row1 (hl r hr) (hk r hr)
  obtain ⟨b, rfl⟩ := hv.bool_
  exact ⟨b, trivial, rfl⟩
 refine ⟨bs, ?_, by omega⟩
 rw [h2, ← h1]
 congr 1
 clear h1 h2 h3
 induction bs with
 | nil => rfl
 | cons b bs ih => simp [ih]
theorem avk_ops {v : AV} (h : AvK (.sl [.int .u8, .str, .str]) v) : ∃ os : List OpP, v = bcA os ∧ os.length ≤ 9223372036854775807 := by
 obtain ⟨rows, rfl, hn, hl, hk⟩ := h.sl_
 obtain ⟨os, h1, h2, _⟩ := rows_list (rows := rows) (fun o : OpP => [.ex (.int .u8 o.1), T o.2.1, T o.2.2]) (fun _ => True) fun r hr => by
  have h3 := hl r hr
  have h4 := hk r hr
  match r, h3 with
  | [v1, v2, v3], _ =>
   obtain ⟨b, rfl⟩ := (h4 0 _ v1 rfl rfl).u8_
   obtain ⟨l, rfl, _⟩ := (h4 1 _ v2 rfl rfl).str_
   obtain ⟨m, rfl, _⟩ := (h4 2 _ v3 rfl rfl).str_
   exact ⟨(b.toNat, l, m), trivial, rfl⟩
 refine ⟨os, ?_, by omega⟩
 rw [h2, ← h1]
 show _ = AV.vs _ (opC os)
 unfold opC
 rw [List.flatMap_def]
theorem avk_batches {v : AV} (h : AvK (.sl [.sl [.int .u8, .str, .str]]) v) : ∃ Ls : List (List OpP), v = bchA Ls ∧ Ls.length ≤ 9223372036854775807 ∧ ∀ os ∈ Ls, os.length ≤ 9223372036854775807 := by
 obtain ⟨rows, rfl, hn, hl, hk⟩ := h.sl_
 obtain ⟨Ls, h1, h2, h3⟩ := rows_list (rows := rows) (fun os : List OpP => [bcA os]) (fun os => os.length ≤ 9223372036854775807) fun r hr => by
  obtain ⟨v, rfl, hv⟩ := row1 (hl r hr) (hk r hr)
  obtain ⟨os, rfl, ho⟩ := avk_ops hv
  exact ⟨os, ho, rfl⟩
 refine ⟨Ls, ?_, by omega, h3⟩
 rw [h2, ← h1]
 show _ = AV.vs _ (Ls.map bcA)
 congr 1
 clear h1 h2 h3
 induction Ls with
 | nil => rfl
 | cons b bs ih => simp [ih]
theorem cells_sh2 {cs : Array Value} (h : CellsOk [.int .i64, .int .i64] cs.toList) : ∃ A Lg : Int, cs = #[.int .i64 A, .int .i64 Lg] := by
 obtain ⟨v1, r1, e1, ⟨k1, rfl, hk1⟩, hr1⟩ := h.cons_
 obtain ⟨v2, r2, e2, ⟨k2, rfl, hk2⟩, hr2⟩ := hr1.cons_
 have e3 := hr2.empty_
 subst e3 e2
 refine ⟨k1, k2, ?_⟩
 apply Array.ext'
 rw [e1]
theorem calls_k {f : FuncId} {avs : List AV} {v : Value} (h : SP f avs (.ex v)) (w : World) (xs : Array Value) (hs : xs.size = avs.length) (hr : ∀ j (h : j < avs.length), Rep w p0 c0 (allF w) noD avs[j] (xs.getD j undef)) : Calls Tryz.prog f xs w fun e w' => e = .returned v ∧ Below w.heap.size w w' := by
 refine (h.2 w (allF w) xs hs hr (fun _ _ h => h)).mono ?_
 rintro e w' ⟨x, F', rfl, hb, _, _, hr⟩
 have := hr.ex_inv
 subst this
 exact ⟨rfl, hb⟩
theorem storePlans_walk (b : Array Value) (v1 : Value) (a1 : AV) (v2 : Value) (a2 : AV) (w : World) (hb : CellsOk [.int .i64, .int .i64] b.toList) (k1 : AvK (.sl [.sl [.int .u8, .str, .str]]) a1) (r1 : Rep w p0 c0 (allF w) noD a1 v1) (k2 : AvK (.sl [.bool]) a2) (r2 : Rep w p0 c0 (allF w) noD a2 v2) :
  Calls Tryz.prog 6 #[.agg b, v1, v2] w fun e w' => e = .returned (.bool true) ∧ Below w.heap.size w w' := by
 obtain ⟨A, Lg, rfl⟩ := cells_sh2 hb
 obtain ⟨Ls, rfl, h1, h2⟩ := avk_batches k1
 obtain ⟨bs, rfl, h3⟩ := avk_bools k2
 refine calls_k (splans_ok A Lg Ls h2 bs h3) w _ rfl fun j hj => ?_
 match j, hj with
 | 0, _ => exact .ex _ _
 | 1, _ => exact r1
 | 2, _ => exact r2
end Go.Proofs.YtbaedepmogkkeaaGreat.Av
