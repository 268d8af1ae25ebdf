/- What the claim stands on, Fk38: contracts of functions and plain facts. No conditions. -/
import Derived.Test.YtbaedepmogkkeaaGreatFk37
import Derived.Test.YtbaedepmogkkeaaGreatFk22
namespace Go.Proofs.YtbaedepmogkkeaaGreat.Av
open Go Go.RowKit Tre
set_option linter.unusedVariables false
set_option linter.unusedSimpArgs false
set_option maxRecDepth 100000
set_option maxHeartbeats 4000000
abbrev bcA (os : List OpP) : AV := .vs os.length (opC os)
abbrev bchA (L : List (List OpP)) : AV := .vs L.length (L.map bcA)
theorem hsB : sizeT Tryz.prog 22 = 1 := by kernel_rfl
theorem bchAt {L : List (List OpP)} {i : Nat} (h : i < L.length) : (L.map bcA)[mulS (i : Int).toNat (sizeT Tryz.prog 22)]? = some (bcA L[i]) := by
 rw [hsB, mulS_eq, Nat.mul_one, Int.toNat_natCast, List.getElem?_map, List.getElem?_eq_getElem h]; rfl
theorem over18_no (L : List (List OpP)) (most : Nat) (hm : L.length ≤ most) (hq : most ≤ 1000) (h : ∀ os ∈ L, ¬ Over13 os) : SP 40 [bchA L, Z most] (B false) := by
 refine S_ Tryz.func40 (by kernel_rfl) rfl (Nat.le_of_ble_eq_true rfl) ?_
 show avc Tryz.prog SP _ _ _ _ _ _
 dsimp only [avc, startS, Array.toList, Tryz.f40]
 repeat' ((try conv => whnf) <;> first | refine Av.Va ?_ | exact True.intro | refine Av.Vb ?_ | exact ⟨rfl, rfl, rfl⟩ | exact ⟨rfl, rfl⟩ | (refine Av.Vc ?_ ?_ <;> intro hBr <;> first | (exfalso; omega) | (exfalso; contradiction) | (exfalso; exact hBr rfl) | skip) | refine Av.Vd ?_ | exact rfl)
 refine ⟨[5, 0], [], fun vs bl => ∃ i : Nat, i ≤ L.length ∧ (vs = [Z i, bchA L] ∧ bl = []), muI L.length, ?_, ?_⟩
 ·exact ⟨0, by omega, rfl, rfl⟩
 rintro vs bl ⟨i, hi, rfl, rfl⟩
 by_cases hlt : i < L.length
 ·have hat := bchAt hlt
  have c := over13_no (h _ (List.getElem_mem hlt))
  have hdec : muI L.length [Z ((i : Int) + 1)] [] < muI L.length [Z i] [] := by show L.length - ((i : Int) + 1).toNat < L.length - (i : Int).toNat; omega
  clear h
  generalize L[i] = os at *
  repeat' ((try conv => whnf) <;> first | refine Av.Va ?_ | (refine ⟨_, hat, ?_⟩) | refine ⟨_, c, ?_⟩ | exact True.intro | refine Av.Vb ?_ | exact ⟨rfl, rfl, rfl⟩ | exact ⟨rfl, rfl⟩ | (refine Av.Vc ?_ ?_ <;> intro hBr <;> first | (exfalso; omega) | (exfalso; contradiction) | (exfalso; exact hBr rfl) | skip) | refine Av.Vd ?_ | exact rfl)
  exact ⟨⟨i + 1, by omega, rfl, rfl⟩, hdec⟩
 ·obtain rfl : i = L.length := by omega
  repeat' ((try conv => whnf) <;> first | refine Av.Va ?_ | exact True.intro | refine Av.Vb ?_ | exact ⟨rfl, rfl, rfl⟩ | exact ⟨rfl, rfl⟩ | (refine Av.Vc ?_ ?_ <;> intro hBr <;> first | (exfalso; omega) | (exfalso; contradiction) | (exfalso; exact hBr rfl) | skip) | refine Av.Vd ?_ | exact rfl)
theorem over18_many (L : List (List OpP)) (most : Nat) (hm : most < L.length) : SP 40 [bchA L, Z most] (B true) := by
 refine S_ Tryz.func40 (by kernel_rfl) rfl (Nat.le_of_ble_eq_true rfl) ?_
 show avc Tryz.prog SP _ _ _ _ _ _
 dsimp only [avc, startS, Array.toList, Tryz.f40]
 repeat' ((try conv => whnf) <;> first | refine Av.Va ?_ | exact True.intro | refine Av.Vb ?_ | exact ⟨rfl, rfl, rfl⟩ | exact ⟨rfl, rfl⟩ | (refine Av.Vc ?_ ?_ <;> intro hBr <;> first | (exfalso; omega) | (exfalso; contradiction) | (exfalso; exact hBr rfl) | skip) | refine Av.Vd ?_ | exact rfl)
theorem over18_one (L : List (List OpP)) (most : Nat) (hm : L.length ≤ most) (hq : most ≤ 1000) (k : Nat) (hk : k < L.length) (h1 : Over13 L[k]) (h2 : L[k].length ≤ 9223372036854775807) (h3 : ∀ j (h : j < L.length), j < k → ¬ Over13 L[j]) : SP 40 [bchA L, Z most] (B true) := by
 refine S_ Tryz.func40 (by kernel_rfl) rfl (Nat.le_of_ble_eq_true rfl) ?_
 show avc Tryz.prog SP _ _ _ _ _ _
 dsimp only [avc, startS, Array.toList, Tryz.f40]
 repeat' ((try conv => whnf) <;> first | refine Av.Va ?_ | exact True.intro | refine Av.Vb ?_ | exact ⟨rfl, rfl, rfl⟩ | exact ⟨rfl, rfl⟩ | (refine Av.Vc ?_ ?_ <;> intro hBr <;> first | (exfalso; omega) | (exfalso; contradiction) | (exfalso; exact hBr rfl) | skip) | refine Av.Vd ?_ | exact rfl)
 refine ⟨[5, 0], [], fun vs bl => ∃ i : Nat, i ≤ k ∧ (vs = [Z i, bchA L] ∧ bl = []), muI L.length, ?_, ?_⟩
 ·exact ⟨0, by omega, rfl, rfl⟩
 rintro vs bl ⟨i, hi, rfl, rfl⟩
 have hlt : i < L.length := by omega
 have hat := bchAt hlt
 have hdec : muI L.length [Z ((i : Int) + 1)] [] < muI L.length [Z i] [] := by show L.length - ((i : Int) + 1).toNat < L.length - (i : Int).toNat; omega
 by_cases hik : i < k
 ·have c := over13_no (h3 i hlt hik)
  clear h3 h1 h2
  generalize L[i] = os at *
  repeat' ((try conv => whnf) <;> first | refine Av.Va ?_ | (refine ⟨_, hat, ?_⟩) | refine ⟨_, c, ?_⟩ | exact True.intro | refine Av.Vb ?_ | exact ⟨rfl, rfl, rfl⟩ | exact ⟨rfl, rfl⟩ | (refine Av.Vc ?_ ?_ <;> intro hBr <;> first | (exfalso; omega) | (exfalso; contradiction) | (exfalso; exact hBr rfl) | skip) | refine Av.Vd ?_ | exact rfl)
  exact ⟨⟨i + 1, by omega, rfl, rfl⟩, hdec⟩
 ·obtain rfl : i = k := by omega
  have c := over13_yes h2 h1
  clear h3 h1 h2
  generalize L[i] = os at *
  repeat' ((try conv => whnf) <;> first | refine Av.Va ?_ | (refine ⟨_, hat, ?_⟩) | refine ⟨_, c, ?_⟩ | exact True.intro | refine Av.Vb ?_ | exact ⟨rfl, rfl, rfl⟩ | exact ⟨rfl, rfl⟩ | (refine Av.Vc ?_ ?_ <;> intro hBr <;> first | (exfalso; omega) | (exfalso; contradiction) | (exfalso; exact hBr rfl) | skip) | refine Av.Vd ?_ | exact rfl)
def Over18 (L : List (List OpP)) (most : Nat) : Prop := most < L.length ∨ ∃ os ∈ L, Over13 os
theorem over18_ok (L : List (List OpP)) (most : Nat) (hq : most ≤ 1000) (hl : ∀ os ∈ L, os.length ≤ 9223372036854775807) :
  (Over18 L most ∧ SP 40 [bchA L, Z most] (B true)) ∨ ((L.length ≤ most ∧ ∀ os ∈ L, ¬ Over13 os) ∧ SP 40 [bchA L, Z most] (B false)) := by
 by_cases h : most < L.length
 ·exact .inl ⟨.inl h, over18_many L most h⟩
 have key : ∀ n, n ≤ L.length → (∀ j (h : j < L.length), j < n → ¬ Over13 L[j]) ∨ ∃ k, ∃ hk : k < L.length, Over13 L[k] ∧ ∀ j (h : j < L.length), j < k → ¬ Over13 L[j] := by
  intro n
  induction n with
  | zero => intro _; exact .inl fun j _ h => by omega
  | succ n ih =>
   intro hn
   rcases ih (by omega) with ih | ih
   ·by_cases e : Over13 (L[n]'(by omega))
    ·exact .inr ⟨n, by omega, e, ih⟩
    ·refine .inl fun j hj hjn => ?_
     by_cases ej : j = n
     ·subst ej; exact e
     ·exact ih j hj (by omega)
   ·exact .inr ih
 rcases key L.length (Nat.le_refl _) with k | ⟨k, hk, k1, k2⟩
 ·have hall : ∀ os ∈ L, ¬ Over13 os := fun os ho => by
   obtain ⟨j, hj, rfl⟩ := List.getElem_of_mem ho
   exact k j hj hj
  exact .inr ⟨⟨by omega, hall⟩, over18_no L most (by omega) hq hall⟩
 ·exact .inl ⟨.inr ⟨_, List.getElem_mem hk, k1⟩, over18_one L most (by omega) hq k hk k1 (hl _ (List.getElem_mem hk)) k2⟩
theorem few_of {os : List OpP} (h : ¬ Over13 os) : FewO os := by
 refine ⟨?_, fun o ho => ?_⟩
 ·apply Classical.byContradiction; intro e; exact h (.inl (by omega))
 ·have := fun e => h (.inr ⟨o, ho, e⟩)
  constructor <;> apply Classical.byContradiction <;> intro e <;> exact this (by omega)
theorem near18_ok (x y : Int) : ∃ A Lg : Nat, (1 ≤ A ∧ A ≤ 40 ∧ 32 ≤ Lg ∧ Lg ≤ 51) ∧ SP 39 [shI x y] (shA A Lg) := by
 obtain ⟨a, ha, ha2⟩ : ∃ a : Nat, IntKind.u64.wrap x = a ∧ a < 18446744073709551616 := by
  have : IntKind.u64.wrap x = x % 18446744073709551616 := rfl
  exact ⟨(x % 18446744073709551616).toNat, by rw [this]; omega, by omega⟩
 obtain ⟨b, hb, hb2⟩ : ∃ a : Nat, IntKind.u64.wrap y = a ∧ a < 18446744073709551616 := by
  have : IntKind.u64.wrap y = y % 18446744073709551616 := rfl
  exact ⟨(y % 18446744073709551616).toNat, by rw [this]; omega, by omega⟩
 refine ⟨1 + a % 40, 32 + b % 20, by omega, ?_⟩
 have e1 : ((1 + a % 40 : Nat) : Int) = 1 + (a : Int) % 40 := by omega
 have e2 : ((32 + b % 20 : Nat) : Int) = 32 + (b : Int) % 20 := by omega
 show SP _ _ (.ex (.agg #[.int .i64 ((1 + a % 40 : Nat) : Int), .int .i64 ((32 + b % 20 : Nat) : Int)]))
 rw [e1, e2]
 refine S_ Tryz.func39 (by kernel_rfl) rfl (Nat.le_of_ble_eq_true rfl) ?_
 show avc Tryz.prog SP _ _ _ _ _ _
 dsimp only [avc, startS, Array.toList, Tryz.f39]
 repeat' ((try conv => whnf) <;> first | refine Av.Va ?_ | (refine ⟨_, ha, ?_⟩) | (refine ⟨_, hb, ?_⟩) | exact True.intro | refine Av.Vb ?_ | exact ⟨rfl, rfl, rfl⟩ | exact ⟨rfl, rfl⟩ | (refine Av.Vc ?_ ?_ <;> intro hBr <;> first | (exfalso; omega) | (exfalso; contradiction) | (exfalso; exact hBr rfl) | skip) | refine Av.Vd ?_ | exact rfl)
theorem plan_do {A Lg : Nat} {L : List Key} {g a : Nat} {l0 now : List Pr} {xs : List Key} {pl : Nat} (h : RunI A Lg L g a l0 now xs pl) {t : Tr} (hf : Fit A t) (ht : t.toL = now) (z u : Nat) (hg : g + 1 < 1099511627776) (os : List OpP) (ho : FewO os) {w : Int} (hw0 : 0 ≤ w) (hw : w ≤ 990000) :
  (fitsE A now os ≠ 0 ∧ SM 47 [.ptr 0 0, bcA os] [stB A Lg t g a z u pl none] [.ptr 0 0] (.tup [nilA, Z (fitsE A now os)]) [stB A Lg t g a z u pl none] ∧
   SM 35 [.ptr 0 0, .ptr 1 0, bcA os] [stB A Lg t g a z u pl none, headN 2 L.length nilA w, secB L] [.ptr 0 0, .ptr 1 0] (Z (fitsE A now os)) [stB A Lg t g a z u pl none, headN 2 L.length nilA w, secB L]) ∨
  (fitsE A now os = 0 ∧ ∃ (n : Nat) (C : List AV) (L2 : List Key) (g2 a2 z2 u2 pl2 : Nat) (w2 : Int), 1 ≤ g2 ∧ pl2 ≤ Lg ∧ L2.length = L.length ∧ Fit A (Tr.apply os t) ∧
   SM 47 [.ptr 0 0, bcA os] [stB A Lg t g a z u pl none] [.ptr 0 0] (.tup [.sl 1 n, Z 0]) [stB A Lg t g2 a2 z2 u2 pl2 (some (Tr.apply os t)), ⟨C, some 174, false, true⟩] ∧
   SM 35 [.ptr 0 0, .ptr 1 0, bcA os] [stB A Lg t g a z u pl none, headN 2 L.length nilA w, secB L] [.ptr 0 0, .ptr 1 0] (Z 0) [stB A Lg (Tr.apply os t) g2 a2 z2 u2 pl2 none, headN 2 L2.length nilA w2, secB L2] ∧
   SM 58 [.ptr 0 0, .sl 1 n] [headN 2 L.length nilA w, ⟨C, some 174, false, true⟩, secB L] [.ptr 0 0] (Z 0) [headB L2.length nilA w2, secB L2]) := by
 rcases plan_step h hf ht z u hg os ho with ⟨he, c⟩ | ⟨he, D, g2, a2, z2, u2, pl2, p, hfa, hta, c⟩
 ·exact .inl ⟨he, c, do_no A Lg t g a z u pl L w os _ he none c⟩
 ·obtain ⟨L2, l2, xs2, w2, r1, r2, r3⟩ := p.run w
  have hl := p.len
  have hgg := r3.dev.gg
  refine .inr ⟨he, D.length, ddC D, L2, g2, a2, z2, u2, pl2, w2, by omega, r3.in_, r2, hfa, c, ?_, ?_⟩
  ·exact do_yes A Lg t g a z u pl L w os g2 a2 z2 u2 pl2 _ D.length D rfl (by omega) c L2 w2 r1 p.ok (by omega) hw0 (by omega)
  ·have c2 := perform_ok ⟨.nil, L, [], w⟩ D false 0 ⟨rfl, rfl, Nat.le_refl _, hw0⟩ p.ok (by omega) (by show w + _ ≤ _; omega)
   rw [r1] at c2
   exact c2
def FkI (A Lg i : Nat) (L : List Key) (w : Int) (R : Tr) (g a pl : Nat) : Prop := ∃ l0 xs, RunI A Lg L g a l0 R.toL xs pl ∧ Fit A R ∧ g ≤ 2 + i ∧ 0 ≤ w ∧ w ≤ 10 + 900 * i
theorem same_t {A : Nat} {a : Tr} (hf : Fit A a) : SP 56 [trA a, trA a] (B true) := by
 have hb := hf.bytes
 have hl := bytesL_ge a.toL
 have := same_ok hf.good hf.good (by omega) (fun x hx => by have := key_le hx; omega)
 rwa [decide_eq_true rfl] at this
theorem sforks_over (x y : Int) (Ls : List (List OpP)) (os : List OpP) (b : Bool) (co : SP 40 [bchA Ls, Z 20] (B b)) (h : b = true ∨ SP 10 [bcA os] (Z 1)) : SP 9 [shI x y, bchA Ls, bcA os] (B true) := by
 have aw := awake18_ok
 cases b with
 | true =>
  refine S_ Tryz.func9 (by kernel_rfl) rfl (Nat.le_of_ble_eq_true rfl) ?_
  show avc Tryz.prog SP _ _ _ _ _ _
  dsimp only [avc, startS, Array.toList, Tryz.f9]
  repeat' ((try conv => whnf) <;> first | refine Av.Va ?_ | refine ⟨_, co, ?_⟩ | refine ⟨_, aw, ?_⟩ | refine ⟨[], [0,1,3,7,15,31,63,127,255,127,1023,2047,4095,8191,16383,32767,16383,16383,262143,524287,1048575,2097151,4194303,8388607,4194303,33554431,67108863,134217727,268435455,536870911,1073741823,536870911,4294967295,8589934591,17179869183,34359738367,68719476735,68719476735,274877906943,549755813887,1099511627775,2199023255551,4398046511103,8796093022207], Av.len_ok rfl (by kernel_rfl), ?_⟩ | refine ⟨[], [0,1,0,7,15,31,63,127,63,511,1023,2047,4095,8191,4095,32767,65535,131071,262143,262143,262143,1835007,4194303,8388607], Av.len_ok rfl (by kernel_rfl), ?_⟩ | refine ⟨[], [0,1,3,7,15,31,15,127,255,511,1023,2047,4095], Av.len_ok rfl (by kernel_rfl), ?_⟩ | exact True.intro | refine Av.Vb ?_ | exact ⟨rfl, rfl, rfl⟩ | exact ⟨rfl, rfl⟩ | (refine Av.Vc ?_ ?_ <;> intro hBr <;> first | (exfalso; omega) | (exfalso; contradiction) | (exfalso; exact hBr rfl) | skip) | refine Av.Vd ?_ | exact rfl)
 | false =>
  obtain h | h := h
  ·cases h
  refine S_ Tryz.func9 (by kernel_rfl) rfl (Nat.le_of_ble_eq_true rfl) ?_
  show avc Tryz.prog SP _ _ _ _ _ _
  dsimp only [avc, startS, Array.toList, Tryz.f9]
  repeat' ((try conv => whnf) <;> first | refine Av.Va ?_ | refine ⟨_, co, ?_⟩ | refine ⟨_, h, ?_⟩ | refine ⟨_, aw, ?_⟩ | refine ⟨[], [0,1,3,7,15,31,63,127,255,127,1023,2047,4095,8191,16383,32767,16383,16383,262143,524287,1048575,2097151,4194303,8388607,4194303,33554431,67108863,134217727,268435455,536870911,1073741823,536870911,4294967295,8589934591,17179869183,34359738367,68719476735,68719476735,274877906943,549755813887,1099511627775,2199023255551,4398046511103,8796093022207], Av.len_ok rfl (by kernel_rfl), ?_⟩ | refine ⟨[], [0,1,0,7,15,31,63,127,63,511,1023,2047,4095,8191,4095,32767,65535,131071,262143,262143,262143,1835007,4194303,8388607], Av.len_ok rfl (by kernel_rfl), ?_⟩ | refine ⟨[], [0,1,3,7,15,31,15,127,255,511,1023,2047,4095], Av.len_ok rfl (by kernel_rfl), ?_⟩ | exact True.intro | refine Av.Vb ?_ | exact ⟨rfl, rfl, rfl⟩ | exact ⟨rfl, rfl⟩ | (refine Av.Vc ?_ ?_ <;> intro hBr <;> first | (exfalso; omega) | (exfalso; contradiction) | (exfalso; exact hBr rfl) | skip) | refine Av.Vd ?_ | exact rfl)
theorem sforks_in (A Lg : Nat) (hsh : 1 ≤ A ∧ A ≤ 40 ∧ 32 ≤ Lg ∧ Lg ≤ 51) (x y : Int) (cn : SP 39 [shI x y] (shA A Lg)) (Ls : List (List OpP)) (hn : Ls.length ≤ 20) (hall : ∀ os ∈ Ls, ¬ Over13 os)
  (co : SP 40 [bchA Ls, Z 20] (B false)) (os : List OpP) (hos : ¬ Over13 os) : SP 9 [shI x y, bchA Ls, bcA os] (B true) := by
 have h : OkSh A Lg := by unfold OkSh; omega
 have aw := awake18_ok
 have co2 := over13_no hos
 obtain ⟨L0, w0, R0, z0, u0, hrun, hR0, hRl0, hw0, cb⟩ := begun_ok h
 rw [← hRl0] at hrun
 have cb : SM 34 [shA A Lg] [] [] (.tup [.ptr 0 0, .ptr 1 0]) [headN 2 L0.length nilA w0, stB A Lg R0 2 1 z0 u0 0 none, secB L0] := cb
 have hrow := fun i (hi : i < Ls.length) => bchAt hi
 have hmu : ∀ i : Nat, i < Ls.length → muI Ls.length [Z ((i : Int) + 1)] [] < muI Ls.length [Z i] [] := fun i hi => by show Ls.length - ((i : Int) + 1).toNat < Ls.length - (i : Int).toNat; omega
 have hFk : FkI A Lg 0 L0 w0 R0 2 1 0 := by
  rw [hRl0] at hrun
  exact ⟨[], [], by rw [hRl0]; exact hrun, hR0, by omega, hw0.1, by omega⟩
 clear hrun hRl0 hw0 hR0
 obtain ⟨C, hC⟩ : ∃ C, C = Ls.map bcA := ⟨_, rfl⟩
 rw [← hC] at hrow
 have co : SP 40 [.vs Ls.length C, Z 20] (B false) := by rw [hC]; exact co
 show SP _ [_, .vs Ls.length (Ls.map bcA), _] _
 rw [← hC]
 clear hC
 refine S_ Tryz.func9 (by kernel_rfl) rfl (Nat.le_of_ble_eq_true rfl) ?_
 show avc Tryz.prog SP _ _ _ _ _ _
 dsimp only [avc, startS, Array.toList, Tryz.f9]
 repeat' ((try conv => whnf) <;> first | refine Av.Va ?_ | refine ⟨_, co, ?_⟩ | refine ⟨_, co2, ?_⟩ | refine ⟨_, cn, ?_⟩ | refine ⟨_, _, _, cb, ?_⟩ | refine ⟨[], [0,1,3,7,15,31,63,127,255,127,1023,2047,4095,8191,16383,32767,16383,16383,262143,524287,1048575,2097151,4194303,8388607,4194303,33554431,67108863,134217727,268435455,536870911,1073741823,536870911,4294967295,8589934591,17179869183,34359738367,68719476735,68719476735,274877906943,549755813887,1099511627775,2199023255551,4398046511103,8796093022207], Av.len_ok rfl (by kernel_rfl), ?_⟩ | refine ⟨[], [0,1,0,7,15,31,63,127,63,511,1023,2047,4095,8191,4095,32767,65535,131071,262143,262143,262143,1835007,4194303,8388607], Av.len_ok rfl (by kernel_rfl), ?_⟩ | refine ⟨[], [0,1,3,7,15,31,15,127,255,511,1023,2047,4095], Av.len_ok rfl (by kernel_rfl), ?_⟩ | exact True.intro | refine Av.Vb ?_ | exact ⟨rfl, rfl, rfl⟩ | exact ⟨rfl, rfl⟩ | (refine Av.Vc ?_ ?_ <;> intro hBr <;> first | (exfalso; omega) | (exfalso; contradiction) | (exfalso; exact hBr rfl) | skip) | refine Av.Vd ?_ | exact rfl)
 clear cb co co2 cn
 refine ⟨[9, 8, 7, 1, 2], [], fun vs bl => ∃ (i : Nat) (L : List Key) (w : Int) (R : Tr) (g a z u pl : Nat), i ≤ Ls.length ∧ FkI A Lg i L w R g a pl ∧ (vs = [Z i, .ptr 0 0, .ptr 1 0, .vs Ls.length C, bcA os] ∧ bl = [stB A Lg R g a z u pl none, headN 2 L.length nilA w, secB L]), muI Ls.length, ?_, ?_⟩
 ·exact ⟨0, L0, w0, R0, 2, 1, z0, u0, 0, by omega, hFk, rfl, rfl⟩
 clear hFk
 rintro vs bl ⟨i, L, w, R, g, a, z, u, pl, hi, ⟨l0, xs, hr, hR, hg, hwa, hwb⟩, rfl, rfl⟩
 by_cases hlt : i < Ls.length
 ·have hat := hrow i hlt
  have hdec := hmu i hlt
  have ho := few_of (hall _ (List.getElem_mem hlt))
  have c1 := own13_ok Ls[i] (by have := ho.1; omega)
  have hd := do_step hr hR rfl z u (by omega) Ls[i] ho hwa (by omega)
  clear hrow hmu hall
  generalize Ls[i] = ops at *
  generalize fitsE A R.toL ops = fe at hd
  rcases hd with ⟨hne, cd⟩ | ⟨_, L2, g2, a2, l2, xs2, pl2, z2, u2, w2, ⟨hw1, hw2⟩, ⟨hg1, hg2⟩, hll, hr2, hf2, ht2, cd⟩
  ·have cd : SM 35 [.ptr 0 0, .ptr 1 0, bcA ops] [stB A Lg R g a z u pl none, headN 2 L.length nilA w, secB L] [.ptr 0 0, .ptr 1 0] (Z fe) [stB A Lg R g a z u pl none, headN 2 L.length nilA w, secB L] := cd
   have hI : FkI A Lg (i + 1) L w R g a pl := ⟨l0, xs, hr, hR, by omega, by omega, by omega⟩
   clear hr hR hg hwa hwb ho
   repeat' ((try conv => whnf) <;> first | refine Av.Va ?_ | (refine ⟨_, hat, ?_⟩) | refine ⟨_, c1, ?_⟩ | refine ⟨_, _, _, cd, ?_⟩ | refine ⟨[], [0,1,3,7,15,31,63,127,255,127,1023,2047,4095,8191,16383,32767,16383,16383,262143,524287,1048575,2097151,4194303,8388607,4194303,33554431,67108863,134217727,268435455,536870911,1073741823,536870911,4294967295,8589934591,17179869183,34359738367,68719476735,68719476735,274877906943,549755813887,1099511627775,2199023255551,4398046511103,8796093022207], Av.len_ok rfl (by kernel_rfl), ?_⟩ | refine ⟨[], [0,1,0,7,15,31,63,127,63,511,1023,2047,4095,8191,4095,32767,65535,131071,262143,262143,262143,1835007,4194303,8388607], Av.len_ok rfl (by kernel_rfl), ?_⟩ | refine ⟨[], [0,1,3,7,15,31,15,127,255,511,1023,2047,4095], Av.len_ok rfl (by kernel_rfl), ?_⟩ | exact True.intro | refine Av.Vb ?_ | exact ⟨rfl, rfl, rfl⟩ | exact ⟨rfl, rfl⟩ | (refine Av.Vc ?_ ?_ <;> intro hBr <;> first | (exfalso; omega) | (exfalso; contradiction) | (exfalso; exact hBr rfl) | skip) | refine Av.Vd ?_ | exact rfl)
   exact ⟨⟨i + 1, L, w, R, g, a, z, u, pl, by omega, hI, rfl, rfl⟩, hdec⟩
  ·have cd : SM 35 [.ptr 0 0, .ptr 1 0, bcA ops] [stB A Lg R g a z u pl none, headN 2 L.length nilA w, secB L] [.ptr 0 0, .ptr 1 0] (Z 0) [stB A Lg (Tr.apply ops R) g2 a2 z2 u2 pl2 none, headN 2 L2.length nilA w2, secB L2] := cd
   have hI : FkI A Lg (i + 1) L2 w2 (Tr.apply ops R) g2 a2 pl2 := ⟨l2, xs2, by rw [ht2]; exact hr2, hf2, by omega, by omega, by omega⟩
   clear hr hr2 ht2 hf2 hR hg hwa hwb ho hw1 hw2 hg1 hg2 hll
   generalize Tr.apply ops R = R2 at *
   repeat' ((try conv => whnf) <;> first | refine Av.Va ?_ | (refine ⟨_, hat, ?_⟩) | refine ⟨_, c1, ?_⟩ | refine ⟨_, _, _, cd, ?_⟩ | refine ⟨[], [0,1,3,7,15,31,63,127,255,127,1023,2047,4095,8191,16383,32767,16383,16383,262143,524287,1048575,2097151,4194303,8388607,4194303,33554431,67108863,134217727,268435455,536870911,1073741823,536870911,4294967295,8589934591,17179869183,34359738367,68719476735,68719476735,274877906943,549755813887,1099511627775,2199023255551,4398046511103,8796093022207], Av.len_ok rfl (by kernel_rfl), ?_⟩ | refine ⟨[], [0,1,0,7,15,31,63,127,63,511,1023,2047,4095,8191,4095,32767,65535,131071,262143,262143,262143,1835007,4194303,8388607], Av.len_ok rfl (by kernel_rfl), ?_⟩ | refine ⟨[], [0,1,3,7,15,31,15,127,255,511,1023,2047,4095], Av.len_ok rfl (by kernel_rfl), ?_⟩ | exact True.intro | refine Av.Vb ?_ | exact ⟨rfl, rfl, rfl⟩ | exact ⟨rfl, rfl⟩ | (refine Av.Vc ?_ ?_ <;> intro hBr <;> first | (exfalso; omega) | (exfalso; contradiction) | (exfalso; exact hBr rfl) | skip) | refine Av.Vd ?_ | exact rfl)
   exact ⟨⟨i + 1, L2, w2, R2, g2, a2, z2, u2, pl2, by omega, hI, rfl, rfl⟩, hdec⟩
 ·obtain rfl : i = Ls.length := by omega
  clear hrow hmu hall
  have ho := few_of hos
  have hpl := hr.in_
  have hgg := hr.dev.gg.1
  have hlen := hr.dev.len
  have c1 := own13_ok os (by have := ho.1; omega)
  have cF : SM 57 [.ptr 0 0] [headB L.length nilA w, secB L] [.ptr 0 0] (.ptr 1 0) [headN 2 L.length nilA w, headN 3 L.length nilA w, secB L, secB L] := dfork_ok .nil L [] w rfl (by simp) (by omega)
  have cf := sfork_ok A Lg R g a z u pl hgg none
  have ct := stree_ok A Lg R g a z u pl none hgg
  have cg := sgen_ok A Lg R g a z u pl none hgg
  have cl := sleft_ok A Lg R g a z u pl none hgg (by omega) (by omega)
  have cs := same_t hR
  have cft := sfits_ok (L := Lg) hR g a z u pl none hgg os ho
  rcases plan_do hr hR rfl z u (by omega) os ho hwa (by omega) with ⟨he, cp, cd⟩ | ⟨he, n, D, L2, g2, a2, z2, u2, pl2, w2, hg2, hpl2, hll, hf2, cp, cd, cpf⟩
  ·clear hr hR hg hwa hwb ho hos
   generalize fitsE A R.toL os = fe at *
   repeat' ((try conv => whnf) <;> first | refine Av.Va ?_ | refine ⟨_, c1, ?_⟩ | refine ⟨_, _, _, cF, ?_⟩ | refine ⟨_, _, _, cf, ?_⟩ | refine ⟨_, _, _, ct, ?_⟩ | refine ⟨_, _, _, cg, ?_⟩ | refine ⟨_, _, _, cl, ?_⟩ | refine ⟨[], [0,1,3,7,15,31,63,127,255,127,1023,2047,4095,8191,16383,32767,16383,16383,262143,524287,1048575,2097151,4194303,8388607,4194303,33554431,67108863,134217727,268435455,536870911,1073741823,536870911,4294967295,8589934591,17179869183,34359738367,68719476735,68719476735,274877906943,549755813887,1099511627775,2199023255551,4398046511103,8796093022207], Av.len_ok rfl (by kernel_rfl), ?_⟩ | refine ⟨[], [0,1,0,7,15,31,63,127,63,511,1023,2047,4095,8191,4095,32767,65535,131071,262143,262143,262143,1835007,4194303,8388607], Av.len_ok rfl (by kernel_rfl), ?_⟩ | refine ⟨[], [0,1,3,7,15,31,15,127,255,511,1023,2047,4095], Av.len_ok rfl (by kernel_rfl), ?_⟩ | exact True.intro | refine Av.Vb ?_ | exact ⟨rfl, rfl, rfl⟩ | exact ⟨rfl, rfl⟩ | (refine Av.Vc ?_ ?_ <;> intro hBr <;> first | (exfalso; omega) | (exfalso; contradiction) | (exfalso; exact hBr rfl) | skip) | refine Av.Vd ?_ | exact rfl)
   dsimp only [List.length_cons, List.length_nil, Nat.reduceAdd, Nat.add_eq]
   repeat' ((try conv => whnf) <;> first | refine Av.Va ?_ | refine ⟨_, _, _, cd, ?_⟩ | refine ⟨_, _, _, ct, ?_⟩ | refine ⟨_, cs, ?_⟩ | refine ⟨_, _, _, cg, ?_⟩ | refine ⟨_, _, _, cl, ?_⟩ | refine ⟨_, _, _, cft, ?_⟩ | refine ⟨[], [0,1,3,7,15,31,63,127,255,127,1023,2047,4095,8191,16383,32767,16383,16383,262143,524287,1048575,2097151,4194303,8388607,4194303,33554431,67108863,134217727,268435455,536870911,1073741823,536870911,4294967295,8589934591,17179869183,34359738367,68719476735,68719476735,274877906943,549755813887,1099511627775,2199023255551,4398046511103,8796093022207], Av.len_ok rfl (by kernel_rfl), ?_⟩ | refine ⟨[], [0,1,0,7,15,31,63,127,63,511,1023,2047,4095,8191,4095,32767,65535,131071,262143,262143,262143,1835007,4194303,8388607], Av.len_ok rfl (by kernel_rfl), ?_⟩ | refine ⟨[], [0,1,3,7,15,31,15,127,255,511,1023,2047,4095], Av.len_ok rfl (by kernel_rfl), ?_⟩ | exact True.intro | refine Av.Vb ?_ | exact ⟨rfl, rfl, rfl⟩ | exact ⟨rfl, rfl⟩ | (refine Av.Vc ?_ ?_ <;> intro hBr <;> first | (exfalso; omega) | (exfalso; contradiction) | (exfalso; exact hBr rfl) | skip) | refine Av.Vd ?_ | exact rfl)
   dsimp only [List.length_cons, List.length_nil, Nat.reduceAdd, Nat.add_eq]
   repeat' ((try conv => whnf) <;> first | refine Av.Va ?_ | refine ⟨_, _, _, cp, ?_⟩ | refine ⟨_, _, _, ct, ?_⟩ | refine ⟨_, cs, ?_⟩ | refine ⟨_, aw, ?_⟩ | refine ⟨[], [0,1,3,7,15,31,63,127,255,127,1023,2047,4095,8191,16383,32767,16383,16383,262143,524287,1048575,2097151,4194303,8388607,4194303,33554431,67108863,134217727,268435455,536870911,1073741823,536870911,4294967295,8589934591,17179869183,34359738367,68719476735,68719476735,274877906943,549755813887,1099511627775,2199023255551,4398046511103,8796093022207], Av.len_ok rfl (by kernel_rfl), ?_⟩ | refine ⟨[], [0,1,0,7,15,31,63,127,63,511,1023,2047,4095,8191,4095,32767,65535,131071,262143,262143,262143,1835007,4194303,8388607], Av.len_ok rfl (by kernel_rfl), ?_⟩ | refine ⟨[], [0,1,3,7,15,31,15,127,255,511,1023,2047,4095], Av.len_ok rfl (by kernel_rfl), ?_⟩ | exact True.intro | refine Av.Vb ?_ | exact ⟨rfl, rfl, rfl⟩ | exact ⟨rfl, rfl⟩ | (refine Av.Vc ?_ ?_ <;> intro hBr <;> first | (exfalso; omega) | (exfalso; contradiction) | (exfalso; exact hBr rfl) | skip) | refine Av.Vd ?_ | exact rfl)
  ·have ca := tapply_ok hR.good (ho.ok hR) _ rfl
   have cs2 := same_t hf2
   rw [he] at cft
   have ct2 := stree_ok A Lg (Tr.apply os R) g2 a2 z2 u2 pl2 none hg2
   have cg2 := sgen_ok A Lg (Tr.apply os R) g2 a2 z2 u2 pl2 none hg2
   have cl2 := sleft_ok A Lg (Tr.apply os R) g2 a2 z2 u2 pl2 none hg2 (by omega) (by omega)
   have cap := sapply_ok A Lg R g2 a2 z2 u2 pl2 hg2 (Tr.apply os R)
   have cds := dsame_ok L2 w2 L2 w2 (by omega) rfl
   rw [decide_eq_true rfl] at cds
   have cds : SM 59 [.ptr 0 0, .ptr 1 0] [headN 2 L2.length nilA w2, headN 3 L2.length nilA w2, secB L2, secB L2] [.ptr 0 0, .ptr 1 0] (B true) [headN 2 L2.length nilA w2, headN 3 L2.length nilA w2, secB L2, secB L2] := cds
   clear hr hR hg hwa hwb ho hos hf2 he hll
   generalize Tr.apply os R = R2 at *
   repeat' ((try conv => whnf) <;> first | refine Av.Va ?_ | refine ⟨_, c1, ?_⟩ | refine ⟨_, _, _, cF, ?_⟩ | refine ⟨_, _, _, cf, ?_⟩ | refine ⟨_, _, _, ct, ?_⟩ | refine ⟨_, _, _, cg, ?_⟩ | refine ⟨_, _, _, cl, ?_⟩ | refine ⟨[], [0,1,3,7,15,31,63,127,255,127,1023,2047,4095,8191,16383,32767,16383,16383,262143,524287,1048575,2097151,4194303,8388607,4194303,33554431,67108863,134217727,268435455,536870911,1073741823,536870911,4294967295,8589934591,17179869183,34359738367,68719476735,68719476735,274877906943,549755813887,1099511627775,2199023255551,4398046511103,8796093022207], Av.len_ok rfl (by kernel_rfl), ?_⟩ | refine ⟨[], [0,1,0,7,15,31,63,127,63,511,1023,2047,4095,8191,4095,32767,65535,131071,262143,262143,262143,1835007,4194303,8388607], Av.len_ok rfl (by kernel_rfl), ?_⟩ | refine ⟨[], [0,1,3,7,15,31,15,127,255,511,1023,2047,4095], Av.len_ok rfl (by kernel_rfl), ?_⟩ | exact True.intro | refine Av.Vb ?_ | exact ⟨rfl, rfl, rfl⟩ | exact ⟨rfl, rfl⟩ | (refine Av.Vc ?_ ?_ <;> intro hBr <;> first | (exfalso; omega) | (exfalso; contradiction) | (exfalso; exact hBr rfl) | skip) | refine Av.Vd ?_ | exact rfl)
   dsimp only [List.length_cons, List.length_nil, Nat.reduceAdd, Nat.add_eq]
   repeat' ((try conv => whnf) <;> first | refine Av.Va ?_ | refine ⟨_, _, _, cd, ?_⟩ | refine ⟨_, _, _, ct, ?_⟩ | refine ⟨_, cs, ?_⟩ | refine ⟨_, _, _, cg, ?_⟩ | refine ⟨_, _, _, cl, ?_⟩ | refine ⟨_, _, _, cft, ?_⟩ | refine ⟨[], [0,1,3,7,15,31,63,127,255,127,1023,2047,4095,8191,16383,32767,16383,16383,262143,524287,1048575,2097151,4194303,8388607,4194303,33554431,67108863,134217727,268435455,536870911,1073741823,536870911,4294967295,8589934591,17179869183,34359738367,68719476735,68719476735,274877906943,549755813887,1099511627775,2199023255551,4398046511103,8796093022207], Av.len_ok rfl (by kernel_rfl), ?_⟩ | refine ⟨[], [0,1,0,7,15,31,63,127,63,511,1023,2047,4095,8191,4095,32767,65535,131071,262143,262143,262143,1835007,4194303,8388607], Av.len_ok rfl (by kernel_rfl), ?_⟩ | refine ⟨[], [0,1,3,7,15,31,15,127,255,511,1023,2047,4095], Av.len_ok rfl (by kernel_rfl), ?_⟩ | exact True.intro | refine Av.Vb ?_ | exact ⟨rfl, rfl, rfl⟩ | exact ⟨rfl, rfl⟩ | (refine Av.Vc ?_ ?_ <;> intro hBr <;> first | (exfalso; omega) | (exfalso; contradiction) | (exfalso; exact hBr rfl) | skip) | refine Av.Vd ?_ | exact rfl)
   dsimp only [List.length_cons, List.length_nil, Nat.reduceAdd, Nat.add_eq]
   repeat' ((try conv => whnf) <;> first | refine Av.Va ?_ | refine ⟨_, _, _, cp, ?_⟩ | refine ⟨_, _, _, cpf, ?_⟩ | refine ⟨_, _, _, cap, ?_⟩ | refine ⟨[], [0,1,3,7,15,31,63,127,255,127,1023,2047,4095,8191,16383,32767,16383,16383,262143,524287,1048575,2097151,4194303,8388607,4194303,33554431,67108863,134217727,268435455,536870911,1073741823,536870911,4294967295,8589934591,17179869183,34359738367,68719476735,68719476735,274877906943,549755813887,1099511627775,2199023255551,4398046511103,8796093022207], Av.len_ok rfl (by kernel_rfl), ?_⟩ | refine ⟨[], [0,1,0,7,15,31,63,127,63,511,1023,2047,4095,8191,4095,32767,65535,131071,262143,262143,262143,1835007,4194303,8388607], Av.len_ok rfl (by kernel_rfl), ?_⟩ | refine ⟨[], [0,1,3,7,15,31,15,127,255,511,1023,2047,4095], Av.len_ok rfl (by kernel_rfl), ?_⟩ | exact True.intro | refine Av.Vb ?_ | exact ⟨rfl, rfl, rfl⟩ | exact ⟨rfl, rfl⟩ | (refine Av.Vc ?_ ?_ <;> intro hBr <;> first | (exfalso; omega) | (exfalso; contradiction) | (exfalso; exact hBr rfl) | skip) | refine Av.Vd ?_ | exact rfl)
   dsimp only [List.length_cons, List.length_nil, Nat.reduceAdd, Nat.add_eq]
   repeat' ((try conv => whnf) <;> first | refine Av.Va ?_ | refine ⟨_, _, _, ct2, ?_⟩ | refine ⟨_, cs2, ?_⟩ | refine ⟨_, ca, ?_⟩ | refine ⟨_, _, _, cg2, ?_⟩ | refine ⟨_, _, _, cl2, ?_⟩ | refine ⟨_, _, _, cds, ?_⟩ | refine ⟨_, aw, ?_⟩ | refine ⟨[], [0,1,3,7,15,31,63,127,255,127,1023,2047,4095,8191,16383,32767,16383,16383,262143,524287,1048575,2097151,4194303,8388607,4194303,33554431,67108863,134217727,268435455,536870911,1073741823,536870911,4294967295,8589934591,17179869183,34359738367,68719476735,68719476735,274877906943,549755813887,1099511627775,2199023255551,4398046511103,8796093022207], Av.len_ok rfl (by kernel_rfl), ?_⟩ | refine ⟨[], [0,1,0,7,15,31,63,127,63,511,1023,2047,4095,8191,4095,32767,65535,131071,262143,262143,262143,1835007,4194303,8388607], Av.len_ok rfl (by kernel_rfl), ?_⟩ | refine ⟨[], [0,1,3,7,15,31,15,127,255,511,1023,2047,4095], Av.len_ok rfl (by kernel_rfl), ?_⟩ | exact True.intro | refine Av.Vb ?_ | exact ⟨rfl, rfl, rfl⟩ | exact ⟨rfl, rfl⟩ | (refine Av.Vc ?_ ?_ <;> intro hBr <;> first | (exfalso; omega) | (exfalso; contradiction) | (exfalso; exact hBr rfl) | skip) | refine Av.Vd ?_ | exact rfl)
theorem sforks_ok (x y : Int) (Ls : List (List OpP)) (hl : ∀ os ∈ Ls, os.length ≤ 9223372036854775807) (os : List OpP) (ho : os.length ≤ 9223372036854775807) : SP 9 [shI x y, bchA Ls, bcA os] (B true) := by
 rcases over18_ok Ls 20 (by omega) hl with ⟨_, co⟩ | ⟨⟨h1, h2⟩, co⟩
 ·exact sforks_over x y Ls os true co (.inl rfl)
 ·by_cases h3 : Over13 os
  ·exact sforks_over x y Ls os false co (.inr (over13_yes ho h3))
  ·obtain ⟨A, Lg, hs, cn⟩ := near18_ok x y
   exact sforks_in A Lg hs x y cn Ls h1 h2 co os h3
end Go.Proofs.YtbaedepmogkkeaaGreat.Av
namespace Go.Proofs.YtbaedepmogkkeaaGreat.Av
open Go Go.RowKit Tre
set_option linter.unusedVariables false
set_option linter.unusedSimpArgs false
theorem row1 {r : List AV} {k : KT} (hl : r.length = 1) (h : ∀ (i : Nat) k' v, [k][i]? = some k' → r[i]? = some v → AvK k' v) : ∃ v, r = [v] ∧ AvK k v := by
 match r, hl with
 | [v], _ => exact ⟨v, rfl, h 0 k v rfl rfl⟩
theorem avk_ops {v : AV} (h : AvK (.sl [.int .u8, .str, .str]) v) : ∃ os : List OpP, v = bcA os ∧ os.length ≤ 9223372036854775807 := by
 obtain ⟨rows, rfl, hn, hl, hk⟩ := h.sl_
 obtain ⟨os, h1, h2, _⟩ := rows_list (rows := rows) (fun o : OpP => [.ex (.int .u8 o.1), T o.2.1, T o.2.2]) (fun _ => True) fun r hr => by
  have h3 := hl r hr
  have h4 := hk r hr
  match r, h3 with
  | [v1, v2, v3], _ =>
   obtain ⟨b, rfl⟩ := (h4 0 _ v1 rfl rfl).u8_
   obtain ⟨l, rfl, _⟩ := (h4 1 _ v2 rfl rfl).str_
   obtain ⟨m, rfl, _⟩ := (h4 2 _ v3 rfl rfl).str_
   exact ⟨(b.toNat, l, m), trivial, rfl⟩
 refine ⟨os, ?_, by omega⟩
 rw [h2, ← h1]
 show _ = AV.vs _ (opC os)
 unfold opC
 rw [List.flatMap_def]
theorem avk_batches {v : AV} (h : AvK (.sl [.sl [.int .u8, .str, .str]]) v) : ∃ Ls : List (List OpP), v = bchA Ls ∧ Ls.length ≤ 9223372036854775807 ∧ ∀ os ∈ Ls, os.length ≤ 9223372036854775807 := by
 obtain ⟨rows, rfl, hn, hl, hk⟩ := h.sl_
 obtain ⟨Ls, h1, h2, h3⟩ := rows_list (rows := rows) (fun os : List OpP => [bcA os]) (fun os => os.length ≤ 9223372036854775807) fun r hr => by
  obtain ⟨v, rfl, hv⟩ := row1 (hl r hr) (hk r hr)
  obtain ⟨os, rfl, ho⟩ := avk_ops hv
  exact ⟨os, ho, rfl⟩
 refine ⟨Ls, ?_, by omega, h3⟩
 rw [h2, ← h1]
 show _ = AV.vs _ (Ls.map bcA)
 congr 1
 clear h1 h2 h3
 induction Ls with
 | nil => rfl
 | cons b bs ih => simp [ih]
theorem cells_sh2 {cs : Array Value} (h : CellsOk [.int .i64, .int .i64] cs.toList) : ∃ A Lg : Int, cs = #[.int .i64 A, .int .i64 Lg] := by
 obtain ⟨v1, r1, e1, ⟨k1, rfl, hk1⟩, hr1⟩ := h.cons_
 obtain ⟨v2, r2, e2, ⟨k2, rfl, hk2⟩, hr2⟩ := hr1.cons_
 have e3 := hr2.empty_
 subst e3 e2
 refine ⟨k1, k2, ?_⟩
 apply Array.ext'
 rw [e1]
theorem calls_k {f : FuncId} {avs : List AV} {v : Value} (h : SP f avs (.ex v)) (w : World) (xs : Array Value) (hs : xs.size = avs.length) (hr : ∀ j (h : j < avs.length), Rep w p0 c0 (allF w) noD avs[j] (xs.getD j undef)) : Calls Tryz.prog f xs w fun e w' => e = .returned v ∧ Below w.heap.size w w' := by
 refine (h.2 w (allF w) xs hs hr (fun _ _ h => h)).mono ?_
 rintro e w' ⟨x, F', rfl, hb, _, _, hr⟩
 have := hr.ex_inv
 subst this
 exact ⟨rfl, hb⟩
theorem storeForks_walk (b : Array Value) (v1 : Value) (a1 : AV) (v2 : Value) (a2 : AV) (w : World) (hb : CellsOk [.int .i64, .int .i64] b.toList) (k1 : AvK (.sl [.sl [.int .u8, .str, .str]]) a1) (r1 : Rep w p0 c0 (allF w) noD a1 v1) (k2 : AvK (.sl [.int .u8, .str, .str]) a2) (r2 : Rep w p0 c0 (allF w) noD a2 v2) :
  Calls Tryz.prog 9 #[.agg b, v1, v2] w fun e w' => e = .returned (.bool true) ∧ Below w.heap.size w w' := by
 obtain ⟨A, Lg, rfl⟩ := cells_sh2 hb
 obtain ⟨Ls, rfl, h1, h2⟩ := avk_batches k1
 obtain ⟨os, rfl, h3⟩ := avk_ops k2
 refine calls_k (sforks_ok A Lg Ls h2 os h3) w _ rfl fun j hj => ?_
 match j, hj with
 | 0, _ => exact .ex _ _
 | 1, _ => exact r1
 | 2, _ => exact r2
end Go.Proofs.YtbaedepmogkkeaaGreat.Av
