/- What the claim stands on, Su39: contracts of functions and plain facts. No conditions. -/
import Derived.Test.YtbaedepmogkkeaaGreatSu38
import Derived.Test.YtbaedepmogkkeaaGreatSu23
namespace Go.Proofs.YtbaedepmogkkeaaGreat.Av
open Go Go.RowKit Tre
set_option linter.unusedVariables false
set_option linter.unusedSimpArgs false
set_option maxRecDepth 100000
set_option maxHeartbeats 4000000
abbrev bcA (os : List OpP) : AV := .vs os.length (opC os)
abbrev bchA (L : List (List OpP)) : AV := .vs L.length (L.map bcA)
theorem hsB : sizeT Tryz.prog 22 = 1 := by kernel_rfl
theorem bchAt {L : List (List OpP)} {i : Nat} (h : i < L.length) : (L.map bcA)[mulS (i : Int).toNat (sizeT Tryz.prog 22)]? = some (bcA L[i]) := by
 rw [hsB, mulS_eq, Nat.mul_one, Int.toNat_natCast, List.getElem?_map, List.getElem?_eq_getElem h]; rfl
theorem over18_no (L : List (List OpP)) (most : Nat) (hm : L.length ≤ most) (hq : most ≤ 1000) (h : ∀ os ∈ L, ¬ Over13 os) : SP 40 [bchA L, Z most] (B false) := by
 refine S_ Tryz.func40 (by kernel_rfl) rfl (Nat.le_of_ble_eq_true rfl) ?_
 show avc Tryz.prog SP _ _ _ _ _ _
 dsimp only [avc, startS, Array.toList, Tryz.f40]
 repeat' ((try conv => whnf) <;> first | refine Av.Va ?_ | exact True.intro | refine Av.Vb ?_ | exact ⟨rfl, rfl, rfl⟩ | exact ⟨rfl, rfl⟩ | (refine Av.Vc ?_ ?_ <;> intro hBr <;> first | (exfalso; omega) | (exfalso; contradiction) | (exfalso; exact hBr rfl) | skip) | refine Av.Vd ?_ | exact rfl)
 refine ⟨[5, 0], [], fun vs bl => ∃ i : Nat, i ≤ L.length ∧ (vs = [Z i, bchA L] ∧ bl = []), muI L.length, ?_, ?_⟩
 ·exact ⟨0, by omega, rfl, rfl⟩
 rintro vs bl ⟨i, hi, rfl, rfl⟩
 by_cases hlt : i < L.length
 ·have hat := bchAt hlt
  have c := over13_no (h _ (List.getElem_mem hlt))
  have hdec : muI L.length [Z ((i : Int) + 1)] [] < muI L.length [Z i] [] := by show L.length - ((i : Int) + 1).toNat < L.length - (i : Int).toNat; omega
  clear h
  generalize L[i] = os at *
  repeat' ((try conv => whnf) <;> first | refine Av.Va ?_ | (refine ⟨_, hat, ?_⟩) | refine ⟨_, c, ?_⟩ | exact True.intro | refine Av.Vb ?_ | exact ⟨rfl, rfl, rfl⟩ | exact ⟨rfl, rfl⟩ | (refine Av.Vc ?_ ?_ <;> intro hBr <;> first | (exfalso; omega) | (exfalso; contradiction) | (exfalso; exact hBr rfl) | skip) | refine Av.Vd ?_ | exact rfl)
  exact ⟨⟨i + 1, by omega, rfl, rfl⟩, hdec⟩
 ·obtain rfl : i = L.length := by omega
  repeat' ((try conv => whnf) <;> first | refine Av.Va ?_ | exact True.intro | refine Av.Vb ?_ | exact ⟨rfl, rfl, rfl⟩ | exact ⟨rfl, rfl⟩ | (refine Av.Vc ?_ ?_ <;> intro hBr <;> first | (exfalso; omega) | (exfalso; contradiction) | (exfalso; exact hBr rfl) | skip) | refine Av.Vd ?_ | exact rfl)
theorem over18_many (L : List (List OpP)) (most : Nat) (hm : most < L.length) : SP 40 [bchA L, Z most] (B true) := by
 refine S_ Tryz.func40 (by kernel_rfl) rfl (Nat.le_of_ble_eq_true rfl) ?_
 show avc Tryz.prog SP _ _ _ _ _ _
 dsimp only [avc, startS, Array.toList, Tryz.f40]
 repeat' ((try conv => whnf) <;> first | refine Av.Va ?_ | exact True.intro | refine Av.Vb ?_ | exact ⟨rfl, rfl, rfl⟩ | exact ⟨rfl, rfl⟩ | (refine Av.Vc ?_ ?_ <;> intro hBr <;> first | (exfalso; omega) | (exfalso; contradiction) | (exfalso; exact hBr rfl) | skip) | refine Av.Vd ?_ | exact rfl)
theorem over18_one (L : List (List OpP)) (most : Nat) (hm : L.length ≤ most) (hq : most ≤ 1000) (k : Nat) (hk : k < L.length) (h1 : Over13 L[k]) (h2 : L[k].length ≤ 9223372036854775807) (h3 : ∀ j (h : j < L.length), j < k → ¬ Over13 L[j]) : SP 40 [bchA L, Z most] (B true) := by
 refine S_ Tryz.func40 (by kernel_rfl) rfl (Nat.le_of_ble_eq_true rfl) ?_
 show avc Tryz.prog SP _ _ _ _ _ _
 dsimp only [avc, startS, Array.toList, Tryz.f40]
 repeat' ((try conv => whnf) <;> first | refine Av.Va ?_ | exact True.intro | refine Av.Vb ?_ | exact ⟨rfl, rfl, rfl⟩ | exact ⟨rfl, rfl⟩ | (refine Av.Vc ?_ ?_ <;> intro hBr <;> first | (exfalso; omega) | (exfalso; contradiction) | (exfalso; exact hBr rfl) | skip) | refine Av.Vd ?_ | exact rfl)
 refine ⟨[5, 0], [], fun vs bl => ∃ i : Nat, i ≤ k ∧ (vs = [Z i, bchA L] ∧ bl = []), muI L.length, ?_, ?_⟩
 ·exact ⟨0, by omega, rfl, rfl⟩
 rintro vs bl ⟨i, hi, rfl, rfl⟩
 have hlt : i < L.length := by omega
 have hat := bchAt hlt
 have hdec : muI L.length [Z ((i : Int) + 1)] [] < muI L.length [Z i] [] := by show L.length - ((i : Int) + 1).toNat < L.length - (i : Int).toNat; omega
 by_cases hik : i < k
 ·have c := over13_no (h3 i hlt hik)
  clear h3 h1 h2
  generalize L[i] = os at *
  repeat' ((try conv => whnf) <;> first | refine Av.Va ?_ | (refine ⟨_, hat, ?_⟩) | refine ⟨_, c, ?_⟩ | exact True.intro | refine Av.Vb ?_ | exact ⟨rfl, rfl, rfl⟩ | exact ⟨rfl, rfl⟩ | (refine Av.Vc ?_ ?_ <;> intro hBr <;> first | (exfalso; omega) | (exfalso; contradiction) | (exfalso; exact hBr rfl) | skip) | refine Av.Vd ?_ | exact rfl)
  exact ⟨⟨i + 1, by omega, rfl, rfl⟩, hdec⟩
 ·obtain rfl : i = k := by omega
  have c := over13_yes h2 h1
  clear h3 h1 h2
  generalize L[i] = os at *
  repeat' ((try conv => whnf) <;> first | refine Av.Va ?_ | (refine ⟨_, hat, ?_⟩) | refine ⟨_, c, ?_⟩ | exact True.intro | refine Av.Vb ?_ | exact ⟨rfl, rfl, rfl⟩ | exact ⟨rfl, rfl⟩ | (refine Av.Vc ?_ ?_ <;> intro hBr <;> first | (exfalso; omega) | (exfalso; contradiction) | (exfalso; exact hBr rfl) | skip) | refine Av.Vd ?_ | exact rfl)
def Over18 (L : List (List OpP)) (most : Nat) : Prop := most < L.length ∨ ∃ os ∈ L, Over13 os
theorem over18_ok (L : List (List OpP)) (most : Nat) (hq : most ≤ 1000) (hl : ∀ os ∈ L, os.length ≤ 9223372036854775807) :
  (Over18 L most ∧ SP 40 [bchA L, Z most] (B true)) ∨ ((L.length ≤ most ∧ ∀ os ∈ L, ¬ Over13 os) ∧ SP 40 [bchA L, Z most] (B false)) := by
 by_cases h : most < L.length
 ·exact .inl ⟨.inl h, over18_many L most h⟩
 have key : ∀ n, n ≤ L.length → (∀ j (h : j < L.length), j < n → ¬ Over13 L[j]) ∨ ∃ k, ∃ hk : k < L.length, Over13 L[k] ∧ ∀ j (h : j < L.length), j < k → ¬ Over13 L[j] := by
  intro n
  induction n with
  | zero => intro _; exact .inl fun j _ h => by omega
  | succ n ih =>
   intro hn
   rcases ih (by omega) with ih | ih
   ·by_cases e : Over13 (L[n]'(by omega))
    ·exact .inr ⟨n, by omega, e, ih⟩
    ·refine .inl fun j hj hjn => ?_
     by_cases ej : j = n
     ·subst ej; exact e
     ·exact ih j hj (by omega)
   ·exact .inr ih
 rcases key L.length (Nat.le_refl _) with k | ⟨k, hk, k1, k2⟩
 ·have hall : ∀ os ∈ L, ¬ Over13 os := fun os ho => by
   obtain ⟨j, hj, rfl⟩ := List.getElem_of_mem ho
   exact k j hj hj
  exact .inr ⟨⟨by omega, hall⟩, over18_no L most (by omega) hq hall⟩
 ·exact .inl ⟨.inr ⟨_, List.getElem_mem hk, k1⟩, over18_one L most (by omega) hq k hk k1 (hl _ (List.getElem_mem hk)) k2⟩
theorem few_of {os : List OpP} (h : ¬ Over13 os) : FewO os := by
 refine ⟨?_, fun o ho => ?_⟩
 ·apply Classical.byContradiction; intro e; exact h (.inl (by omega))
 ·have := fun e => h (.inr ⟨o, ho, e⟩)
  constructor <;> apply Classical.byContradiction <;> intro e <;> exact this (by omega)
theorem near18_ok (x y : Int) : ∃ A Lg : Nat, (1 ≤ A ∧ A ≤ 40 ∧ 32 ≤ Lg ∧ Lg ≤ 51) ∧ SP 39 [shI x y] (shA A Lg) := by
 obtain ⟨a, ha, ha2⟩ : ∃ a : Nat, IntKind.u64.wrap x = a ∧ a < 18446744073709551616 := by
  have : IntKind.u64.wrap x = x % 18446744073709551616 := rfl
  exact ⟨(x % 18446744073709551616).toNat, by rw [this]; omega, by omega⟩
 obtain ⟨b, hb, hb2⟩ : ∃ a : Nat, IntKind.u64.wrap y = a ∧ a < 18446744073709551616 := by
  have : IntKind.u64.wrap y = y % 18446744073709551616 := rfl
  exact ⟨(y % 18446744073709551616).toNat, by rw [this]; omega, by omega⟩
 refine ⟨1 + a % 40, 32 + b % 20, by omega, ?_⟩
 have e1 : ((1 + a % 40 : Nat) : Int) = 1 + (a : Int) % 40 := by omega
 have e2 : ((32 + b % 20 : Nat) : Int) = 32 + (b : Int) % 20 := by omega
 show SP _ _ (.ex (.agg #[.int .i64 ((1 + a % 40 : Nat) : Int), .int .i64 ((32 + b % 20 : Nat) : Int)]))
 rw [e1, e2]
 refine S_ Tryz.func39 (by kernel_rfl) rfl (Nat.le_of_ble_eq_true rfl) ?_
 show avc Tryz.prog SP _ _ _ _ _ _
 dsimp only [avc, startS, Array.toList, Tryz.f39]
 repeat' ((try conv => whnf) <;> first | refine Av.Va ?_ | (refine ⟨_, ha, ?_⟩) | (refine ⟨_, hb, ?_⟩) | exact True.intro | refine Av.Vb ?_ | exact ⟨rfl, rfl, rfl⟩ | exact ⟨rfl, rfl⟩ | (refine Av.Vc ?_ ?_ <;> intro hBr <;> first | (exfalso; omega) | (exfalso; contradiction) | (exfalso; exact hBr rfl) | skip) | refine Av.Vd ?_ | exact rfl)
structure Wrk where
 k : Int
 p : Plan
def Wrk.ok (x : Wrk) : Prop := x.p.keep < 18446744073709551616
abbrev wkC (x : Wrk) : List AV := [Z x.k, U x.p.keep, Z x.p.torn, Z x.p.cut]
abbrev wkA (x : Wrk) : AV := .ex (.agg #[.int .i64 x.k, .int .u64 (x.p.keep : Int), .int .i64 x.p.torn, .int .i64 x.p.cut])
def wksC (l : List Wrk) : List AV := l.flatMap wkC
def cutN (k : Int) (n : Nat) : Nat := if (n : Int) < k then n else k.toNat
theorem ddC_takeL (D : List Dd) {m : Nat} (h : m ≤ D.length) : (ddC D).take (m * 3) = ddC (D.take m) := by
 have e : ddC D = ddC (D.take m) ++ ddC (D.drop m) := by rw [← ddC_app, List.take_append_drop]
 rw [e, List.take_left']
 rw [ddC_len, List.length_take]; omega
theorem hsDd : sizeT Tryz.prog 174 = 3 := by kernel_rfl
theorem part18_ok (L : List Key) (w : Int) (D : List Dd) (x : Wrk) (hx : x.ok) (hD : DdOk L.length D) (hl : D.length ≤ 900) (hw0 : 0 ≤ w) (hw : w ≤ 990000) (m : Nat) (hm : m = cutN x.k D.length) (L2 : List Key) (w2 : Int)
  (hW : WrOk (Dk.run ⟨.nil, L, [], w⟩ (D.take m)).P L.length) (hS : Sec (Dk.run ⟨.nil, L, [], w⟩ (D.take m)).L)
  (hL2 : L2 = keepL x.p 0 (Dk.run ⟨.nil, L, [], w⟩ (D.take m)).P (undoL (Dk.run ⟨.nil, L, [], w⟩ (D.take m)).P (Dk.run ⟨.nil, L, [], w⟩ (D.take m)).L)) (hw2 : w2 = (Dk.run ⟨.nil, L, [], w⟩ (D.take m)).w) :
  SM 55 [.ptr 0 0, .sl 1 D.length, wkA x] [headN 2 L.length nilA w, ⟨ddC D, some 174, false, true⟩, secB L] [.ptr 0 0] (Z m) [headB L2.length nilA w2, secB L2] := by
 have hml : m ≤ D.length := by rw [hm]; unfold cutN; split <;> omega
 have hmi : (m : Int) = if (if (D.length : Int) < x.k then (D.length : Int) else x.k) > 0 then (if (D.length : Int) < x.k then (D.length : Int) else x.k) else 0 := by rw [hm]; unfold cutN; split <;> split <;> omega
 have htl : (D.take m).length = m := by rw [List.length_take]; omega
 have hok := Dk.Ok.run (D.take m) (d := ⟨.nil, L, [], w⟩) (m := 0) ⟨rfl, rfl, Nat.le_refl _, hw0⟩
 have cp := perform_vs ⟨.nil, L, [], w⟩ (D.take m) 0 ⟨rfl, rfl, Nat.le_refl _, hw0⟩ (fun y hy => hD y (List.take_subset _ _ hy)) (by omega) (by show w + _ ≤ _; omega)
 have hln := Dk.run_len (D.take m) ⟨.nil, L, [], w⟩
 rw [htl] at cp
 rw [← ddC_takeL D hml] at cp
 generalize Dk.run ⟨.nil, L, [], w⟩ (D.take m) = R at *
 obtain ⟨q1, L1, P1, w1⟩ := R
 simp only at hW hS hL2 hw2 cp hln
 obtain ⟨k1, k2, k3, k4⟩ := hok
 simp only at k1 k2 k3 k4
 have cc := dcrash_ok q1 L1 P1 w1 x.p hx k2 (by omega) (by rw [hln]; exact hW) hS
 rw [← hL2] at cc
 subst hw2
 have htk : takeL (ddC D) (mulS (0 : Int).toNat (sizeT Tryz.prog 174)) (mulS ((m : Int).toNat - (0 : Int).toNat) (sizeT Tryz.prog 174)) = (ddC D).take (m * 3) := by
  rw [hsDd, mulS_eq, mulS_eq]; unfold takeL; simp
 rw [← htk] at cp
 have cp : SM 58 [.ptr 0 0, .vs ((m : Int).toNat - (0 : Int).toNat) (takeL (ddC D) (mulS (0 : Int).toNat (sizeT Tryz.prog 174)) (mulS ((m : Int).toNat - (0 : Int).toNat) (sizeT Tryz.prog 174)))] [headB L.length nilA w, secB L] [.ptr 0 0] (Z 0) (dsk q1 L1 P1 w2) := cp
 have hCl : D.length * sizeT Tryz.prog 174 ≤ (ddC D).length := by rw [hsDd, ddC_len]; omega
 clear htk hL2 hW hS hD htl hm
 obtain ⟨k, p⟩ := x
 obtain ⟨kp, tn, ct⟩ := p
 simp only at hmi
 have he0 : 0 ≤ (m : Int) ∧ (m : Int) ≤ D.length := by omega
 rw [hmi] at cp he0 ⊢
 obtain ⟨he1, he2⟩ := he0
 generalize ddC D = C at *
 generalize D.length = n at *
 have hcut : (0 : Int) ≤ 0 ∧ 0 ≤ (if (if (n : Int) < k then (n : Int) else k) > 0 then (if (n : Int) < k then (n : Int) else k) else 0) ∧ (if (if (n : Int) < k then (n : Int) else k) > 0 then (if (n : Int) < k then (n : Int) else k) else 0) ≤ (n : Int) ∧ n * sizeT Tryz.prog 174 ≤ C.length := ⟨by omega, he1, he2, hCl⟩
 cases q1 with
 | sh => exact absurd (show Pd.isSh .sh = false from k1) (by decide)
 | _ =>
  refine SM_ Tryz.func55 (by kernel_rfl) rfl (Nat.le_of_ble_eq_true rfl) (show 1 ≤ 3 by omega) ?_
  show avc Tryz.prog SP _ _ _ _ _ _
  dsimp only [avc, startS, Array.toList, Tryz.f55]
  repeat' ((try conv => whnf) <;> first | refine Av.Va ?_ | (refine And.intro hcut ?_) | refine ⟨_, _, _, cp, ?_⟩ | refine ⟨_, _, _, cc, ?_⟩ | exact True.intro | refine Av.Vb ?_ | exact ⟨rfl, rfl, rfl⟩ | exact ⟨rfl, rfl⟩ | (refine Av.Vc ?_ ?_ <;> intro hBr <;> first | (exfalso; omega) | (exfalso; contradiction) | (exfalso; exact hBr rfl) | skip) | refine Av.Vd ?_ | exact rfl)
theorem part18_vnil (L : List Key) (w : Int) (x : Wrk) (hx : x.ok) (hw0 : 0 ≤ w) (hw : w ≤ 990000) (hS : Sec L) :
  SM 55 [.ptr 0 0, .vs 0 [], wkA x] [headB L.length nilA w, secB L] [.ptr 0 0] (Z 0) [headB L.length nilA w, secB L] := by
 have cp := perform_vs ⟨.nil, L, [], w⟩ [] 0 ⟨rfl, rfl, Nat.le_refl _, hw0⟩ (fun y hy => by cases hy) (by simp) (by show w + ((0 : Nat) : Int) ≤ _; omega)
 have cp : SM 58 [.ptr 0 0, .vs 0 []] [headB L.length nilA w, secB L] [.ptr 0 0] (Z 0) [headB L.length nilA w, secB L] := cp
 have cc := dcrash_ok .nil L [] w x.p hx rfl (by simp) (fun y hy => by cases hy) hS
 have cc : SM 120 [.ptr 0 0, planA x.p] [headB L.length nilA w, secB L] [.ptr 0 0] (Z 0) [headB L.length nilA w, secB L] := cc
 obtain ⟨k, p⟩ := x
 obtain ⟨kp, tn, ct⟩ := p
 obtain ⟨E, hE⟩ : ∃ E : Int, E = (if (if ((0 : Nat) : Int) < k then ((0 : Nat) : Int) else k) > 0 then (if ((0 : Nat) : Int) < k then ((0 : Nat) : Int) else k) else 0) := ⟨_, rfl⟩
 have e0 : E = 0 := by
  rw [hE]
  by_cases h : ((0 : Nat) : Int) < k
  ·rw [if_pos h]; rfl
  ·rw [if_neg h, if_neg (by omega)]
 have hcut : (0 : Int) ≤ 0 ∧ 0 ≤ E ∧ E ≤ ((0 : Nat) : Int) ∧ 0 * sizeT Tryz.prog 174 ≤ ([] : List AV).length := ⟨by omega, by omega, by omega, by simp⟩
 have htk : ∀ m : Nat, takeL ([] : List AV) (mulS (0 : Int).toNat (sizeT Tryz.prog 174)) m = [] := fun m => by unfold takeL; simp
 have e1 : E.toNat - (0 : Int).toNat = 0 := by rw [e0]; rfl
 have cp : SM 58 [.ptr 0 0, .vs (E.toNat - (0 : Int).toNat) (takeL ([] : List AV) (mulS (0 : Int).toNat (sizeT Tryz.prog 174)) (mulS (E.toNat - (0 : Int).toNat) (sizeT Tryz.prog 174)))] [headB L.length nilA w, secB L] [.ptr 0 0] (Z 0) [headB L.length nilA w, secB L] := by rw [htk, e1]; exact cp
 suffices hs : SM 55 [.ptr 0 0, .vs 0 [], wkA ⟨k, kp, tn, ct⟩] [headB L.length nilA w, secB L] [.ptr 0 0] (Z E) [headB L.length nilA w, secB L] by rw [e0] at hs; exact hs
 clear e0 e1 htk
 rw [hE] at cp hcut ⊢
 clear hE
 refine SM_ Tryz.func55 (by kernel_rfl) rfl (Nat.le_of_ble_eq_true rfl) (show 1 ≤ 3 by omega) ?_
 show avc Tryz.prog SP _ _ _ _ _ _
 dsimp only [avc, startS, Array.toList, Tryz.f55]
 repeat' ((try conv => whnf) <;> first | refine Av.Va ?_ | (refine And.intro hcut ?_) | refine ⟨_, _, _, cp, ?_⟩ | refine ⟨_, _, _, cc, ?_⟩ | exact True.intro | refine Av.Vb ?_ | exact ⟨rfl, rfl, rfl⟩ | exact ⟨rfl, rfl⟩ | (refine Av.Vc ?_ ?_ <;> intro hBr <;> first | (exfalso; omega) | (exfalso; contradiction) | (exfalso; exact hBr rfl) | skip) | refine Av.Vd ?_ | exact rfl)
theorem part18_nil (L : List Key) (w : Int) (x : Wrk) (hx : x.ok) (hw0 : 0 ≤ w) (hw : w ≤ 990000) (hS : Sec L) :
  SM 55 [.ptr 0 0, nilA, wkA x] [headB L.length nilA w, secB L] [.ptr 0 0] (Z 0) [headB L.length nilA w, secB L] := by
 refine smWeak (part18_vnil L w x hx hw0 hw hS) rfl fun w p c F j h1 h2 v hv => ?_
 match j, h1 with
 | 0, _ => exact hv
 | 1, _ => have : v = .slice none 0 0 := hv.ex_inv2; subst this; exact .vnil _
 | 2, _ => exact hv
theorem SvI.len {A Lg : Nat} {L : List Key} {now : List Pr} {g a : Nat} (h : SvI A Lg L now g a) : L.length = 2 + 2 * A + Lg := by obtain ⟨l, d, _⟩ := h.dev; exact d.len
theorem SvI.sh {A Lg : Nat} {L : List Key} {now : List Pr} {g a : Nat} (h : SvI A Lg L now g a) : OkSh A Lg := by obtain ⟨l, d, _⟩ := h.dev; exact d.sh
theorem rec18 {A Lg : Nat} {L : List Key} {now : List Pr} {g a : Nat} (h : SvI A Lg L now g a) (w : Int) : ∃ (R : Tr) (g2 a2 z u : Nat), Fit A R ∧ R.toL = now ∧ 1 ≤ g2 ∧
  SM 20 [.ptr 0 0, shA A Lg] [headB L.length nilA w, secB L] [.ptr 0 0] (.tup [.ptr 1 0, .sl 2 (anewD A now g a).length, Z 0]) [headN 3 L.length nilA w, stB A Lg R g2 a2 z u 0 none, ⟨ddC (anewD A now g a), some 174, false, true⟩, secB L] := by
 obtain ⟨hg, ha, hfl, R, hR, hRl, c, _⟩ := recS_ok (q := .nil) (P := []) (w := w) h.sh h.len rfl h.recd
 refine ⟨R, g + 1, 1 - a, (Shf.encB now).length, sumN (Shf.encB now), hR, hRl, by omega, ?_⟩
 rw [anewD_len]
 exact c
theorem again18 {A Lg : Nat} {L : List Key} {now : List Pr} {g a : Nat} (h : SvI A Lg L now g a) (hg : g + 1 < 1099511627776) (x : Wrk) (hx : x.ok) {w : Int} (hw0 : 0 ≤ w) (hw : w ≤ 900000) : ∃ (L2 : List Key) (w2 : Int) (g2 a2 m : Nat), SvI A Lg L2 now g2 a2 ∧ g2 ≤ g + 1 ∧ (w ≤ w2 ∧ w2 ≤ w + 900) ∧
  SM 55 [.ptr 0 0, .sl 1 (anewD A now g a).length, wkA x] [headN 2 L.length nilA w, ⟨ddC (anewD A now g a), some 174, false, true⟩, secB L] [.ptr 0 0] (Z m) [headB L2.length nilA w2, secB L2] := by
 obtain ⟨p1, p2, g2, a2, p3, p4⟩ := part_inv h hg w x.p (cutN x.k (anewD A now g a).length)
 have hfit := h.fit.fit
 have htop := h.fit.top
 have hl := anewD_len A now g a
 have hrw := Dk.run_w ((anewD A now g a).take (cutN x.k (anewD A now g a).length)) ⟨.nil, L, [], w⟩
 have hll : ((anewD A now g a).take (cutN x.k (anewD A now g a).length)).length ≤ 900 := by rw [List.length_take]; omega
 exact ⟨_, _, g2, a2, _, p4, p3, ⟨hrw.1, by have := hrw.2; simp only at this; omega⟩, part18_ok L w (anewD A now g a) x hx (anew_ok h hg) (by omega) hw0 (by omega) _ rfl _ _ p1 p2 rfl rfl⟩
theorem last18 {A Lg : Nat} {L : List Key} {g : Nat} {now : List Pr} {os : List OpP} {D : List Dd} {g2 a2 pl2 : Nat} (h : Planned A Lg L g now os D g2 a2 pl2) (x : Wrk) (hx : x.ok) {w : Int} (hw0 : 0 ≤ w) (hw : w ≤ 900000) : ∃ (L2 : List Key) (w2 : Int) (g' a' m : Nat) (now' : List Pr), SvI A Lg L2 now' g' a' ∧ g' ≤ g2 ∧ (w ≤ w2 ∧ w2 ≤ w + 900) ∧
  (now' = now ∨ now' = applyL os now) ∧ ((m : Int) < (D.length : Int) - 1 → now' = now) ∧ ((m : Int) = (D.length : Int) → now' = applyL os now) ∧
  SM 55 [.ptr 0 0, .sl 1 D.length, wkA x] [headN 2 L.length nilA w, ⟨ddC D, some 174, false, true⟩, secB L] [.ptr 0 0] (Z m) [headB L2.length nilA w2, secB L2] := by
 obtain ⟨p1, p2, g', a', now', p3, p4, p5, p6, p7⟩ := h.part w x.p (cutN x.k D.length)
 have hl := h.len
 have hrw := Dk.run_w (D.take (cutN x.k D.length)) ⟨.nil, L, [], w⟩
 have hll : (D.take (cutN x.k D.length)).length ≤ 900 := by rw [List.length_take]; omega
 exact ⟨_, _, g', a', cutN x.k D.length, now', p4, p3, ⟨hrw.1, by have := hrw.2; simp only at this; omega⟩, p5, fun e => p6 (by omega), fun e => p7 (by omega), part18_ok L w D x hx h.ok (by omega) hw0 (by omega) _ rfl _ _ p1 p2 rfl rfl⟩
theorem same_b {A : Nat} {a b : Tr} (hf : Fit A a) (hg : Fit A b) (r : Bool) (hr : r = decide (a.toL = b.toL)) : SP 56 [trA a, trA b] (B r) := by
 have hb := hf.bytes
 have hl := bytesL_ge a.toL
 rw [hr]
 exact same_ok hf.good hg.good (by omega) (fun x hx => by have := key_le hx; omega)
theorem wkAt {l : List Wrk} {i : Nat} (h : i < l.length) : (wkC l[i]).length = sizeT Tryz.prog 112 ∧ ∀ j v, (wkC l[i])[j]? = some v → (wksC l)[mulS (i : Int).toNat (sizeT Tryz.prog 112) + j]? = some v := by
 have hs : sizeT Tryz.prog 112 = 4 := by kernel_rfl
 rw [hs, mulS_eq, Int.toNat_natCast]
 refine ⟨rfl, fun j v hj => ?_⟩
 have hj4 : j < 4 := by
  apply Classical.byContradiction; intro hn
  rw [List.getElem?_eq_none (by show 4 ≤ j; omega)] at hj; cases hj
 have key : ∀ (l : List Wrk) (i : Nat) (h : i < l.length), (wksC l)[i * 4 + j]? = (wkC l[i])[j]? := by
  intro l
  induction l with
  | nil => intro i h; simp at h
  | cons x l ih =>
   intro i h
   cases i with
   | zero =>
    show (wkC x ++ wksC l)[0 * 4 + j]? = _
    rw [List.getElem?_append_left (by show 0 * 4 + j < 4; omega), Nat.zero_mul, Nat.zero_add]; rfl
   | succ i =>
    show (wkC x ++ wksC l)[(i + 1) * 4 + j]? = _
    rw [List.getElem?_append_right (by show 4 ≤ (i + 1) * 4 + j; omega), show (i + 1) * 4 + j - (wkC x).length = i * 4 + j by show (i + 1) * 4 + j - 4 = _; omega, ih i (by simpa using h)]; rfl
 rw [key l i h]; exact hj
abbrev lostA (x y : Int) (k : Wrk) (n : Nat) (C : List AV) : AV := .agg [Z x, Z y, Z k.k, U k.p.keep, Z k.p.torn, Z k.p.cut, .vs n C]
abbrev lostB (x y : Int) (k : Wrk) (n : Nat) (C : List AV) : ABlk := ⟨[Z x, Z y, Z k.k, U k.p.keep, Z k.p.torn, Z k.p.cut, .vs n C], none, false, true⟩
theorem ssurv_over (x y : Int) (Ls : List (List OpP)) (os : List OpP) (k : Wrk) (ag : List Wrk) (b : Bool) (co : SP 40 [bchA Ls, Z 20] (B b)) (n1 : Nat) (c1 : SP 10 [bcA os] (Z n1)) (h : b = true ∨ b = false ∧ (0 < n1 ∨ n1 = 0 ∧ 5 < ag.length)) :
  SP 8 [bchA Ls, bcA os, lostA x y k ag.length (wksC ag)] (B true) := by
 have aw := awake18_ok
 rcases h with rfl | ⟨rfl, h⟩
 ·refine S_ Tryz.func8 (by kernel_rfl) rfl (Nat.le_of_ble_eq_true rfl) ?_ -- G
  repeat' ((try conv => whnf) <;> first | refine Av.Va ?_ | refine ⟨_, co, ?_⟩ | refine ⟨_, aw, ?_⟩ | refine ⟨[], [0,1,3,7,15,7,63,127,255], Av.len_ok rfl (by kernel_rfl), ?_⟩ | refine ⟨[], [0,0,2,7,15], Av.len_ok rfl (by kernel_rfl), ?_⟩ | exact True.intro | refine Av.Vb ?_ | exact ⟨rfl, rfl, rfl⟩ | exact ⟨rfl, rfl⟩ | (refine Av.Vc ?_ ?_ <;> intro hBr <;> first | (exfalso; omega) | (exfalso; contradiction) | (exfalso; exact hBr rfl) | skip) | refine Av.Vd ?_ | exact rfl)
 ·rcases h with h | ⟨rfl, h⟩
  ·refine S_ Tryz.func8 (by kernel_rfl) rfl (Nat.le_of_ble_eq_true rfl) ?_ -- G
   repeat' ((try conv => whnf) <;> first | refine Av.Va ?_ | refine ⟨_, co, ?_⟩ | refine ⟨_, c1, ?_⟩ | refine ⟨_, aw, ?_⟩ | refine ⟨[], [0,1,3,7,15,7,63,127,255], Av.len_ok rfl (by kernel_rfl), ?_⟩ | refine ⟨[], [0,0,2,7,15], Av.len_ok rfl (by kernel_rfl), ?_⟩ | exact True.intro | refine Av.Vb ?_ | exact ⟨rfl, rfl, rfl⟩ | exact ⟨rfl, rfl⟩ | (refine Av.Vc ?_ ?_ <;> intro hBr <;> first | (exfalso; omega) | (exfalso; contradiction) | (exfalso; exact hBr rfl) | skip) | refine Av.Vd ?_ | exact rfl)
  ·refine S_ Tryz.func8 (by kernel_rfl) rfl (Nat.le_of_ble_eq_true rfl) ?_ -- G
   repeat' ((try conv => whnf) <;> first | refine Av.Va ?_ | refine ⟨_, co, ?_⟩ | refine ⟨_, c1, ?_⟩ | refine ⟨_, aw, ?_⟩ | refine ⟨[], [0,1,3,7,15,7,63,127,255], Av.len_ok rfl (by kernel_rfl), ?_⟩ | refine ⟨[], [0,0,2,7,15], Av.len_ok rfl (by kernel_rfl), ?_⟩ | exact True.intro | refine Av.Vb ?_ | exact ⟨rfl, rfl, rfl⟩ | exact ⟨rfl, rfl⟩ | (refine Av.Vc ?_ ?_ <;> intro hBr <;> first | (exfalso; omega) | (exfalso; contradiction) | (exfalso; exact hBr rfl) | skip) | refine Av.Vd ?_ | exact rfl)
def FsI (A Lg i : Nat) (L : List Key) (w : Int) (R : Tr) (g a pl : Nat) : Prop := ∃ l0 xs, RunI A Lg L g a l0 R.toL xs pl ∧ Fit A R ∧ g ≤ 2 + i ∧ 0 ≤ w ∧ w ≤ 10 + 900 * i
theorem ssurv_in (A Lg : Nat) (hsh : 1 ≤ A ∧ A ≤ 40 ∧ 32 ≤ Lg ∧ Lg ≤ 51) (x y : Int) (cn : SP 39 [shI x y] (shA A Lg)) (Ls : List (List OpP)) (hn : Ls.length ≤ 20) (hall : ∀ os ∈ Ls, ¬ Over13 os)
  (co : SP 40 [bchA Ls, Z 20] (B false)) (os : List OpP) (hos : ¬ Over13 os) (k : Wrk) (hk : k.ok) (ag : List Wrk) (hag : ag.length ≤ 5) (hago : ∀ x ∈ ag, Wrk.ok x) : SP 8 [bchA Ls, bcA os, lostA x y k ag.length (wksC ag)] (B true) := by
 have h : OkSh A Lg := by unfold OkSh; omega
 have aw := awake18_ok
 have co2 := over13_no hos
 obtain ⟨L0, w0, R0, z0, u0, hrun, hR0, hRl0, hw0, cb⟩ := begun_ok h
 have cb : SM 34 [shA A Lg] [] [] (.tup [.ptr 0 0, .ptr 1 0]) [headN 2 L0.length nilA w0, stB A Lg R0 2 1 z0 u0 0 none, secB L0] := cb
 have hrow := fun i (hi : i < Ls.length) => bchAt hi
 have hmu : ∀ i : Nat, i < Ls.length → muI Ls.length [Z ((i : Int) + 1)] [] < muI Ls.length [Z i] [] := fun i hi => by show Ls.length - ((i : Int) + 1).toNat < Ls.length - (i : Int).toNat; omega
 have hmu2 : ∀ i : Nat, i < ag.length → muI ag.length [Z ((i : Int) + 1)] [] < muI ag.length [Z i] [] := fun i hi => by show ag.length - ((i : Int) + 1).toNat < ag.length - (i : Int).toNat; omega
 have hag2 := fun i (hi : i < ag.length) => wkAt hi
 have hFk : FsI A Lg 0 L0 w0 R0 2 1 0 := ⟨[], [], by rw [hRl0]; exact hrun, hR0, by omega, hw0.1, by omega⟩
 clear hrun hRl0 hw0 hR0
 obtain ⟨C, hC⟩ : ∃ C, C = Ls.map bcA := ⟨_, rfl⟩
 rw [← hC] at hrow
 have co : SP 40 [.vs Ls.length C, Z 20] (B false) := by rw [hC]; exact co
 show SP _ [.vs Ls.length (Ls.map bcA), _, _] _
 rw [← hC]
 clear hC
 refine S_ Tryz.func8 (by kernel_rfl) rfl (Nat.le_of_ble_eq_true rfl) ?_
 show avc Tryz.prog SP _ _ _ _ _ _
 dsimp only [avc, startS, Array.toList, Tryz.f8]
 repeat' ((try conv => whnf) <;> first | refine Av.Va ?_ | refine ⟨_, co, ?_⟩ | refine ⟨_, co2, ?_⟩ | refine ⟨_, cn, ?_⟩ | refine ⟨_, _, _, cb, ?_⟩ | refine ⟨[], [0,1,3,7,15,7,63,127,255], Av.len_ok rfl (by kernel_rfl), ?_⟩ | refine ⟨[], [0,0,2,7,15], Av.len_ok rfl (by kernel_rfl), ?_⟩ | exact True.intro | refine Av.Vb ?_ | exact ⟨rfl, rfl, rfl⟩ | exact ⟨rfl, rfl⟩ | (refine Av.Vc ?_ ?_ <;> intro hBr <;> first | (exfalso; omega) | (exfalso; contradiction) | (exfalso; exact hBr rfl) | skip) | refine Av.Vd ?_ | exact rfl)
 clear cb co co2 cn
 refine ⟨[10, 9, 8, 0, 1, 5, 7], [], fun vs bl => ∃ (i : Nat) (L : List Key) (w : Int) (R : Tr) (g a z u pl : Nat), i ≤ Ls.length ∧ FsI A Lg i L w R g a pl ∧ (vs = [Z i, .ptr 0 0, .ptr 1 0, .vs Ls.length C, bcA os, .ptr 2 0, .ptr 3 0] ∧
  bl = [stB A Lg R g a z u pl none, headN 4 L.length nilA w, lostB x y k ag.length (wksC ag), ⟨[Z A, Z Lg], none, false, true⟩, secB L]), muI Ls.length, ?_, ?_⟩
 ·exact ⟨0, L0, w0, R0, 2, 1, z0, u0, 0, by omega, hFk, rfl, rfl⟩
 clear hFk
 rintro vs bl ⟨i, L, w, R, g, a, z, u, pl, hi, ⟨l0, xs, hr, hR, hg, hwa, hwb⟩, rfl, rfl⟩
 by_cases hlt : i < Ls.length
 ·have hat := hrow i hlt
  have hdec := hmu i hlt
  have ho := few_of (hall _ (List.getElem_mem hlt))
  have c1 := own13_ok Ls[i] (by have := ho.1; omega)
  have hd := do_step hr hR rfl z u (by omega) Ls[i] ho hwa (by omega)
  clear hrow hmu hall hag2 hmu2
  generalize Ls[i] = ops at *
  generalize fitsE A R.toL ops = fe at hd
  rcases hd with ⟨hne, cd⟩ | ⟨_, L2, g2, a2, l2, xs2, pl2, z2, u2, w2, ⟨hw1, hw2⟩, ⟨hg1, hg2⟩, hll, hr2, hf2, ht2, cd⟩
  ·have cd : SM 35 [.ptr 0 0, .ptr 1 0, bcA ops] [stB A Lg R g a z u pl none, headN 2 L.length nilA w, secB L] [.ptr 0 0, .ptr 1 0] (Z fe) [stB A Lg R g a z u pl none, headN 2 L.length nilA w, secB L] := cd
   have hI : FsI A Lg (i + 1) L w R g a pl := ⟨l0, xs, hr, hR, by omega, by omega, by omega⟩
   clear hr hR hg hwa hwb ho
   repeat' ((try conv => whnf) <;> first | refine Av.Va ?_ | (refine ⟨_, hat, ?_⟩) | refine ⟨_, c1, ?_⟩ | refine ⟨_, _, _, cd, ?_⟩ | refine ⟨[], [0,1,3,7,15,7,63,127,255], Av.len_ok rfl (by kernel_rfl), ?_⟩ | refine ⟨[], [0,0,2,7,15], Av.len_ok rfl (by kernel_rfl), ?_⟩ | exact True.intro | refine Av.Vb ?_ | exact ⟨rfl, rfl, rfl⟩ | exact ⟨rfl, rfl⟩ | (refine Av.Vc ?_ ?_ <;> intro hBr <;> first | (exfalso; omega) | (exfalso; contradiction) | (exfalso; exact hBr rfl) | skip) | refine Av.Vd ?_ | exact rfl)
   exact ⟨⟨i + 1, L, w, R, g, a, z, u, pl, by omega, hI, rfl, rfl⟩, hdec⟩
  ·have cd : SM 35 [.ptr 0 0, .ptr 1 0, bcA ops] [stB A Lg R g a z u pl none, headN 2 L.length nilA w, secB L] [.ptr 0 0, .ptr 1 0] (Z 0) [stB A Lg (Tr.apply ops R) g2 a2 z2 u2 pl2 none, headN 2 L2.length nilA w2, secB L2] := cd
   have hI : FsI A Lg (i + 1) L2 w2 (Tr.apply ops R) g2 a2 pl2 := ⟨l2, xs2, by rw [ht2]; exact hr2, hf2, by omega, by omega, by omega⟩
   clear hr hr2 ht2 hf2 hR hg hwa hwb ho hw1 hw2 hg1 hg2 hll
   generalize Tr.apply ops R = R2 at *
   repeat' ((try conv => whnf) <;> first | refine Av.Va ?_ | (refine ⟨_, hat, ?_⟩) | refine ⟨_, c1, ?_⟩ | refine ⟨_, _, _, cd, ?_⟩ | refine ⟨[], [0,1,3,7,15,7,63,127,255], Av.len_ok rfl (by kernel_rfl), ?_⟩ | refine ⟨[], [0,0,2,7,15], Av.len_ok rfl (by kernel_rfl), ?_⟩ | exact True.intro | refine Av.Vb ?_ | exact ⟨rfl, rfl, rfl⟩ | exact ⟨rfl, rfl⟩ | (refine Av.Vc ?_ ?_ <;> intro hBr <;> first | (exfalso; omega) | (exfalso; contradiction) | (exfalso; exact hBr rfl) | skip) | refine Av.Vd ?_ | exact rfl)
   exact ⟨⟨i + 1, L2, w2, R2, g2, a2, z2, u2, pl2, by omega, hI, rfl, rfl⟩, hdec⟩
 ·obtain rfl : i = Ls.length := by omega
  clear hrow hmu hall
  have ho := few_of hos
  have hgg := hr.dev.gg.1
  have hsec := hr.dev.sec
  have c1 := own13_ok os (by have := ho.1; omega)
  have ct := stree_ok A Lg R g a z u pl none hgg
  rcases plan_step hr hR rfl z u (by omega) os ho with ⟨he, cp⟩ | ⟨he, D, g2, a2, z2, u2, pl2, p, hf2, ht2, cp⟩
  ·have cpt := part18_nil L w k hk hwa (by omega) hsec
   obtain ⟨R9, g8, a8, z8, u8, hR9, hRl9, hg8, crec⟩ := rec18 hr.sv w
   have ct9 := stree_ok A Lg R9 g8 a8 z8 u8 0 none hg8
   have cs9 := same_b hR9 hR true (by rw [decide_eq_true hRl9])
   have hsv9 : SvI A Lg L R9.toL g a := by rw [hRl9]; exact hr.sv
   rw [← hRl9] at crec
   obtain ⟨L9, hL9⟩ : ∃ L9, L9 = L := ⟨_, rfl⟩
   obtain ⟨w9, hw9⟩ : ∃ w9, w9 = w := ⟨_, rfl⟩
   obtain ⟨g9, hg9⟩ : ∃ g9, g9 = g := ⟨_, rfl⟩
   obtain ⟨a9, ha9⟩ : ∃ a9, a9 = a := ⟨_, rfl⟩
   rw [← hL9, ← hg9, ← ha9] at hsv9
   have hg9 : g9 ≤ 100 := by omega
   have hw9' : 0 ≤ w9 ∧ w9 ≤ 100000 + 900 * ((0 : Nat) : Int) := by omega
   obtain ⟨n9, hn9⟩ : ∃ n, n = (anewD A R9.toL g9 a9).length := ⟨_, rfl⟩
   obtain ⟨C9, hC9⟩ : ∃ C, C = ddC (anewD A R9.toL g9 a9) := ⟨_, rfl⟩
   have crec : SM 20 [.ptr 0 0, shA A Lg] [headB L.length nilA w, secB L] [.ptr 0 0] (.tup [.ptr 1 0, .sl 2 n9, Z 0]) [headN 3 L.length nilA w, stB A Lg R9 g8 a8 z8 u8 0 none, ⟨C9, some 174, false, true⟩, secB L] := by rw [hn9, hC9, ha9, ‹g9 = g›]; exact crec
   clear hr hg hwa hwb ho hos hsec hRl9 hg8 hR
   generalize fitsE A R.toL os = fe at *
   repeat' ((try conv => whnf) <;> first | refine Av.Va ?_ | refine ⟨_, _, _, ct, ?_⟩ | refine ⟨_, c1, ?_⟩ | refine ⟨_, _, _, cp, ?_⟩ | refine ⟨_, _, _, cpt, ?_⟩ | refine ⟨[], [0,1,3,7,15,7,63,127,255], Av.len_ok rfl (by kernel_rfl), ?_⟩ | refine ⟨[], [0,0,2,7,15], Av.len_ok rfl (by kernel_rfl), ?_⟩ | exact True.intro | refine Av.Vb ?_ | exact ⟨rfl, rfl, rfl⟩ | exact ⟨rfl, rfl⟩ | (refine Av.Vc ?_ ?_ <;> intro hBr <;> first | (exfalso; omega) | (exfalso; contradiction) | (exfalso; exact hBr rfl) | skip) | refine Av.Vd ?_ | exact rfl)
   dsimp only [List.length_cons, List.length_nil, Nat.reduceAdd, Nat.add_eq]
   repeat' ((try conv => whnf) <;> first | refine Av.Va ?_ | refine ⟨_, _, _, crec, ?_⟩ | refine ⟨_, _, _, ct9, ?_⟩ | refine ⟨_, cs9, ?_⟩ | refine ⟨[], [0,1,3,7,15,7,63,127,255], Av.len_ok rfl (by kernel_rfl), ?_⟩ | refine ⟨[], [0,0,2,7,15], Av.len_ok rfl (by kernel_rfl), ?_⟩ | exact True.intro | refine Av.Vb ?_ | exact ⟨rfl, rfl, rfl⟩ | exact ⟨rfl, rfl⟩ | (refine Av.Vc ?_ ?_ <;> intro hBr <;> first | (exfalso; omega) | (exfalso; contradiction) | (exfalso; exact hBr rfl) | skip) | refine Av.Vd ?_ | exact rfl)
   subst hL9 hw9
   have hw9 := hw9'
   clear cp cpt c1 ct crec ct9 cs9
   refine ⟨[20, 8, 17, 5, 7, 19], [], fun vs bl => ∃ (j : Nat) (M : List Key) (v : Int) (h b n : Nat) (E : List AV), j ≤ ag.length ∧ SvI A Lg M R9.toL h b ∧ h ≤ 100 + j ∧ (0 ≤ v ∧ v ≤ 100000 + 900 * j) ∧ n = (anewD A R9.toL h b).length ∧ E = ddC (anewD A R9.toL h b) ∧ (vs = [Z j, .ptr 0 0, .sl 1 n, .ptr 2 0, .ptr 3 0, .ptr 4 0] ∧
    bl = [headN 5 M.length nilA v, ⟨E, some 174, false, true⟩, lostB x y k ag.length (wksC ag), ⟨[Z A, Z Lg], none, false, true⟩, ⟨[ndA R9], none, false, true⟩, secB M]), muI ag.length, ?_, ?_⟩
   ·exact ⟨0, L9, w9, g9, a9, _, _, by omega, hsv9, by omega, hw9, hn9, hC9, rfl, rfl⟩
   clear hsv9 hw9 hn9 hC9 hg9
   rintro vs bl ⟨j, M, v, h, b, n, E, hj, hsv, hh, hv, hn, hE, rfl, rfl⟩
   by_cases hjl : j < ag.length
   ·have hat := hag2 j hjl
    have hdec := hmu2 j hjl
    obtain ⟨M2, v2, h2, b2, m2, hsv2, hh2, hv2, cpart⟩ := again18 hsv (by omega) ag[j] (hago _ (List.getElem_mem hjl)) hv.1 (by omega)
    rw [← hn, ← hE] at cpart
    obtain ⟨R8, h8, b8, z8, u8, hR8, hRl8, hg8, crec⟩ := rec18 hsv2 v2
    have ct8 := stree_ok A Lg R8 h8 b8 z8 u8 0 none hg8
    have cs8 := same_b hR8 hR9 true (by rw [decide_eq_true hRl8])
    clear hsv hn hE hR8 hRl8 hg8 hag2 hmu2 hago
    generalize ag[j] = wr at *
    obtain ⟨n2, hn2⟩ : ∃ n2, n2 = (anewD A R9.toL h2 b2).length := ⟨_, rfl⟩
    obtain ⟨E2, hE2⟩ : ∃ E2, E2 = ddC (anewD A R9.toL h2 b2) := ⟨_, rfl⟩
    rw [← hn2, ← hE2] at crec
    repeat' ((try conv => whnf) <;> first | refine Av.Va ?_ | (refine ⟨_, hat, ?_⟩) | refine ⟨_, _, _, cpart, ?_⟩ | refine ⟨_, _, _, crec, ?_⟩ | refine ⟨_, _, _, ct8, ?_⟩ | refine ⟨_, cs8, ?_⟩ | refine ⟨[], [0,1,3,7,15,7,63,127,255], Av.len_ok rfl (by kernel_rfl), ?_⟩ | refine ⟨[], [0,0,2,7,15], Av.len_ok rfl (by kernel_rfl), ?_⟩ | exact True.intro | refine Av.Vb ?_ | exact ⟨rfl, rfl, rfl⟩ | exact ⟨rfl, rfl⟩ | (refine Av.Vc ?_ ?_ <;> intro hBr <;> first | (exfalso; omega) | (exfalso; contradiction) | (exfalso; exact hBr rfl) | skip) | refine Av.Vd ?_ | exact rfl)
    exact ⟨⟨j + 1, M2, v2, h2, b2, n2, E2, by omega, hsv2, by omega, by omega, hn2, hE2, rfl, rfl⟩, hdec⟩
   ·obtain rfl : j = ag.length := by omega
    clear hag2 hmu2 hago hsv hn hE
    repeat' ((try conv => whnf) <;> first | refine Av.Va ?_ | refine ⟨_, aw, ?_⟩ | refine ⟨[], [0,1,3,7,15,7,63,127,255], Av.len_ok rfl (by kernel_rfl), ?_⟩ | refine ⟨[], [0,0,2,7,15], Av.len_ok rfl (by kernel_rfl), ?_⟩ | exact True.intro | refine Av.Vb ?_ | exact ⟨rfl, rfl, rfl⟩ | exact ⟨rfl, rfl⟩ | (refine Av.Vc ?_ ?_ <;> intro hBr <;> first | (exfalso; omega) | (exfalso; contradiction) | (exfalso; exact hBr rfl) | skip) | refine Av.Vd ?_ | exact rfl)
  ·have ca := tapply_ok hR.good (ho.ok hR) _ rfl
   obtain ⟨L9, w9, g9, a9, m, now9, hsv9, hg9, hw9, hn1, hn2, hn3, cpt⟩ := last18 p k hk hwa (by omega)
   obtain ⟨R9, g8, a8, z8, u8, hR9, hRl9, hg8, crec⟩ := rec18 hsv9 w9
   have ct9 := stree_ok A Lg R9 g8 a8 z8 u8 0 none hg8
   have hgp := p.gen
   have csw := same_b hR9 hR _ rfl
   have csb := same_b hR9 hf2 _ rfl
   rw [ht2] at csb
   rw [hRl9] at csw csb
   obtain ⟨n9, hn9⟩ : ∃ n, n = (anewD A R9.toL g9 a9).length := ⟨_, rfl⟩
   obtain ⟨C9, hC9⟩ : ∃ C, C = ddC (anewD A R9.toL g9 a9) := ⟨_, rfl⟩
   subst hRl9
   rw [← hn9, ← hC9] at crec
   have hg9 : g9 ≤ 100 := by omega
   have hw9 : 0 ≤ w9 ∧ w9 ≤ 100000 + 900 * ((0 : Nat) : Int) := by omega
   obtain ⟨DC, hDC⟩ : ∃ DC, DC = ddC D := ⟨_, rfl⟩
   have cp : SM 47 [.ptr 0 0, .vs os.length (opC os)] [stB A Lg R g a z u pl none] [.ptr 0 0] (.tup [.sl 1 D.length, Z 0]) [stB A Lg R g2 a2 z2 u2 pl2 (some (Tr.apply os R)), ⟨DC, some 174, false, true⟩] := by rw [hDC]; exact cp
   rw [← hDC] at cpt
   obtain ⟨b1, hb1⟩ : ∃ b1, b1 = decide (R9.toL = R.toL) := ⟨_, rfl⟩
   obtain ⟨b2, hb2⟩ : ∃ b2, b2 = decide (R9.toL = applyL os R.toL) := ⟨_, rfl⟩
   rw [← hb1] at csw
   rw [← hb2] at csb
   have hdl : 2 ≤ D.length ∧ D.length ≤ 900 := p.len
   have hcase : (b1 = true ∧ b2 = true) ∨ (b1 = true ∧ b2 = false ∧ ¬ (m : Int) = (D.length : Int)) ∨ (b1 = false ∧ b2 = true ∧ ¬ (m : Int) < (D.length : Int) - 1) := by
    by_cases e1 : R9.toL = R.toL
    ·by_cases e2 : R9.toL = applyL os R.toL
     ·exact .inl ⟨by rw [hb1, decide_eq_true e1], by rw [hb2, decide_eq_true e2]⟩
     ·exact .inr (.inl ⟨by rw [hb1, decide_eq_true e1], by rw [hb2, decide_eq_false e2], fun e => e2 (hn3 e)⟩)
    ·have e2 : R9.toL = applyL os R.toL := hn1.resolve_left e1
     exact .inr (.inr ⟨by rw [hb1, decide_eq_false e1], by rw [hb2, decide_eq_true e2], fun e => e1 (hn2 e)⟩)
   clear hr hg hwa hwb ho hos hsec hg8 hR p hf2 ht2 he hn1 hn2 hn3 hb1 hb2 hDC
   generalize Tr.apply os R = R2 at *
   generalize D.length = dn at *
   rcases hcase with ⟨rfl, rfl⟩ | ⟨rfl, rfl, hne⟩ | ⟨rfl, rfl, hne⟩
   all_goals
    repeat' ((try conv => whnf) <;> first | refine Av.Va ?_ | refine ⟨_, _, _, ct, ?_⟩ | refine ⟨_, c1, ?_⟩ | refine ⟨_, _, _, cp, ?_⟩ | refine ⟨_, ca, ?_⟩ | refine ⟨_, _, _, cpt, ?_⟩ | refine ⟨[], [0,1,3,7,15,7,63,127,255], Av.len_ok rfl (by kernel_rfl), ?_⟩ | refine ⟨[], [0,0,2,7,15], Av.len_ok rfl (by kernel_rfl), ?_⟩ | exact True.intro | refine Av.Vb ?_ | exact ⟨rfl, rfl, rfl⟩ | exact ⟨rfl, rfl⟩ | (refine Av.Vc ?_ ?_ <;> intro hBr <;> first | (exfalso; omega) | (exfalso; contradiction) | (exfalso; exact hBr rfl) | skip) | refine Av.Vd ?_ | exact rfl)
    all_goals dsimp only [List.length_cons, List.length_nil, Nat.reduceAdd, Nat.add_eq]
    repeat' ((try conv => whnf) <;> first | refine Av.Va ?_ | refine ⟨_, _, _, crec, ?_⟩ | refine ⟨_, _, _, ct9, ?_⟩ | refine ⟨_, csw, ?_⟩ | refine ⟨_, csb, ?_⟩ | refine ⟨[], [0,1,3,7,15,7,63,127,255], Av.len_ok rfl (by kernel_rfl), ?_⟩ | refine ⟨[], [0,0,2,7,15], Av.len_ok rfl (by kernel_rfl), ?_⟩ | exact True.intro | refine Av.Vb ?_ | exact ⟨rfl, rfl, rfl⟩ | exact ⟨rfl, rfl⟩ | (refine Av.Vc ?_ ?_ <;> intro hBr <;> first | (exfalso; omega) | (exfalso; contradiction) | (exfalso; exact hBr rfl) | skip) | refine Av.Vd ?_ | exact rfl)
   all_goals
    clear cp cpt c1 ct crec ct9 csw csb ca
    refine ⟨[20, 8, 17, 5, 7, 19], [], fun vs bl => ∃ (j : Nat) (M : List Key) (v : Int) (h b n : Nat) (E : List AV), j ≤ ag.length ∧ SvI A Lg M R9.toL h b ∧ h ≤ 100 + j ∧ (0 ≤ v ∧ v ≤ 100000 + 900 * j) ∧ n = (anewD A R9.toL h b).length ∧ E = ddC (anewD A R9.toL h b) ∧ (vs = [Z j, .ptr 0 0, .sl 1 n, .ptr 2 0, .ptr 3 0, .ptr 4 0] ∧
     bl = [headN 5 M.length nilA v, ⟨E, some 174, false, true⟩, lostB x y k ag.length (wksC ag), ⟨[Z A, Z Lg], none, false, true⟩, ⟨[ndA R9], none, false, true⟩, secB M]), muI ag.length, ?_, ?_⟩
    ·exact ⟨0, L9, w9, g9, a9, _, _, by omega, hsv9, by omega, hw9, hn9, hC9, rfl, rfl⟩
    clear hsv9 hw9 hn9 hC9 hg9
    rintro vs bl ⟨j, M, v, h, b, n, E, hj, hsv, hh, hv, hn, hE, rfl, rfl⟩
    by_cases hjl : j < ag.length
    ·have hat := hag2 j hjl
     have hdec := hmu2 j hjl
     obtain ⟨M2, v2, h2, b2, m2, hsv2, hh2, hv2, cpart⟩ := again18 hsv (by omega) ag[j] (hago _ (List.getElem_mem hjl)) hv.1 (by omega)
     rw [← hn, ← hE] at cpart
     obtain ⟨R8, h8, b8, z8, u8, hR8, hRl8, hg8, crec⟩ := rec18 hsv2 v2
     have ct8 := stree_ok A Lg R8 h8 b8 z8 u8 0 none hg8
     have cs8 := same_b hR8 hR9 true (by rw [decide_eq_true hRl8])
     clear hsv hn hE hR8 hRl8 hg8 hag2 hmu2 hago
     generalize ag[j] = wr at *
     obtain ⟨n2, hn2⟩ : ∃ n2, n2 = (anewD A R9.toL h2 b2).length := ⟨_, rfl⟩
     obtain ⟨E2, hE2⟩ : ∃ E2, E2 = ddC (anewD A R9.toL h2 b2) := ⟨_, rfl⟩
     rw [← hn2, ← hE2] at crec
     repeat' ((try conv => whnf) <;> first | refine Av.Va ?_ | (refine ⟨_, hat, ?_⟩) | refine ⟨_, _, _, cpart, ?_⟩ | refine ⟨_, _, _, crec, ?_⟩ | refine ⟨_, _, _, ct8, ?_⟩ | refine ⟨_, cs8, ?_⟩ | refine ⟨[], [0,1,3,7,15,7,63,127,255], Av.len_ok rfl (by kernel_rfl), ?_⟩ | refine ⟨[], [0,0,2,7,15], Av.len_ok rfl (by kernel_rfl), ?_⟩ | exact True.intro | refine Av.Vb ?_ | exact ⟨rfl, rfl, rfl⟩ | exact ⟨rfl, rfl⟩ | (refine Av.Vc ?_ ?_ <;> intro hBr <;> first | (exfalso; omega) | (exfalso; contradiction) | (exfalso; exact hBr rfl) | skip) | refine Av.Vd ?_ | exact rfl)
     exact ⟨⟨j + 1, M2, v2, h2, b2, n2, E2, by omega, hsv2, by omega, by omega, hn2, hE2, rfl, rfl⟩, hdec⟩
    ·obtain rfl : j = ag.length := by omega
     clear hag2 hmu2 hago hsv hn hE
     repeat' ((try conv => whnf) <;> first | refine Av.Va ?_ | refine ⟨_, aw, ?_⟩ | refine ⟨[], [0,1,3,7,15,7,63,127,255], Av.len_ok rfl (by kernel_rfl), ?_⟩ | refine ⟨[], [0,0,2,7,15], Av.len_ok rfl (by kernel_rfl), ?_⟩ | exact True.intro | refine Av.Vb ?_ | exact ⟨rfl, rfl, rfl⟩ | exact ⟨rfl, rfl⟩ | (refine Av.Vc ?_ ?_ <;> intro hBr <;> first | (exfalso; omega) | (exfalso; contradiction) | (exfalso; exact hBr rfl) | skip) | refine Av.Vd ?_ | exact rfl)
end Go.Proofs.YtbaedepmogkkeaaGreat.Av
namespace Go.Proofs.YtbaedepmogkkeaaGreat.Av
open Go Go.RowKit Tre
set_option linter.unusedVariables false
set_option linter.unusedSimpArgs false
theorem row1 {r : List AV} {k : KT} (hl : r.length = 1) (h : ∀ (i : Nat) k' v, [k][i]? = some k' → r[i]? = some v → AvK k' v) : ∃ v, r = [v] ∧ AvK k v := by
 match r, hl with
 | [v], _ => exact ⟨v, rfl, h 0 k v rfl rfl⟩
theorem avk_ops {v : AV} (h : AvK (.sl [.int .u8, .str, .str]) v) : ∃ os : List OpP, v = bcA os ∧ os.length ≤ 9223372036854775807 := by
 obtain ⟨rows, rfl, hn, hl, hk⟩ := h.sl_
 obtain ⟨os, h1, h2, _⟩ := rows_list (rows := rows) (fun o : OpP => [.ex (.int .u8 o.1), T o.2.1, T o.2.2]) (fun _ => True) fun r hr => by
  have h3 := hl r hr
  have h4 := hk r hr
  match r, h3 with
  | [v1, v2, v3], _ =>
   obtain ⟨b, rfl⟩ := (h4 0 _ v1 rfl rfl).u8_
   obtain ⟨l, rfl, _⟩ := (h4 1 _ v2 rfl rfl).str_
   obtain ⟨m, rfl, _⟩ := (h4 2 _ v3 rfl rfl).str_
   exact ⟨(b.toNat, l, m), trivial, rfl⟩
 refine ⟨os, ?_, by omega⟩
 rw [h2, ← h1]
 show _ = AV.vs _ (opC os)
 unfold opC
 rw [List.flatMap_def]
theorem avk_batches {v : AV} (h : AvK (.sl [.sl [.int .u8, .str, .str]]) v) : ∃ Ls : List (List OpP), v = bchA Ls ∧ Ls.length ≤ 9223372036854775807 ∧ ∀ os ∈ Ls, os.length ≤ 9223372036854775807 := by
 obtain ⟨rows, rfl, hn, hl, hk⟩ := h.sl_
 obtain ⟨Ls, h1, h2, h3⟩ := rows_list (rows := rows) (fun os : List OpP => [bcA os]) (fun os => os.length ≤ 9223372036854775807) fun r hr => by
  obtain ⟨v, rfl, hv⟩ := row1 (hl r hr) (hk r hr)
  obtain ⟨os, rfl, ho⟩ := avk_ops hv
  exact ⟨os, ho, rfl⟩
 refine ⟨Ls, ?_, by omega, h3⟩
 rw [h2, ← h1]
 show _ = AV.vs _ (Ls.map bcA)
 congr 1
 clear h1 h2 h3
 induction Ls with
 | nil => rfl
 | cons b bs ih => simp [ih]
theorem calls_k {f : FuncId} {avs : List AV} {v : Value} (h : SP f avs (.ex v)) (w : World) (xs : Array Value) (hs : xs.size = avs.length) (hr : ∀ j (h : j < avs.length), Rep w p0 c0 (allF w) noD avs[j] (xs.getD j undef)) : Calls Tryz.prog f xs w fun e w' => e = .returned v ∧ Below w.heap.size w w' := by
 refine (h.2 w (allF w) xs hs hr (fun _ _ h => h)).mono ?_
 rintro e w' ⟨x, F', rfl, hb, _, _, hr⟩
 have := hr.ex_inv
 subst this
 exact ⟨rfl, hb⟩
end Go.Proofs.YtbaedepmogkkeaaGreat.Av
