/- What the claim stands on, Su30: contracts of functions and plain facts. No conditions. -/
import Derived.Test.YtbaedepmogkkeaaGreatSu29
import Derived.Test.YtbaedepmogkkeaaGreatSu24
import Derived.Test.YtbaedepmogkkeaaGreatSu28
namespace Go.Proofs.YtbaedepmogkkeaaGreat.Av
set_option maxHeartbeats 1000000
open Go Go.RowKit
set_option linter.unusedVariables false
set_option linter.unusedSimpArgs false
set_option maxRecDepth 100000
abbrev rtC (g a z u : Int) : List AV := [U g, Z a, Z z, .ex (.int .u32 u)]
theorem pick_yn (a b : List UInt8) (g0 a0 z0 u0 g1 a1 z1 u1 e0 e1 : Int) (h0 : e0 = 0) (h1 : e1 ≠ 0) (hg : 1 ≤ g0) (hA : SP 189 [T a] (.tup [rt g0 a0 z0 u0, Z e0])) (hB : SP 189 [T b] (.tup [rt g1 a1 z1 u1, Z e1])) :
  SP 139 [T a, T b] (.tup [rt g0 a0 z0 u0, Z 0, Z 0]) := by
 refine S_ Tryz.func139 (by kernel_rfl) rfl (Nat.le_of_ble_eq_true rfl) ?_
 show avc Tryz.prog SP _ _ _ _ _ _
 dsimp only [avc, startS, Array.toList, Tryz.f139]
 repeat' ((try conv => whnf) <;> first | refine Av.Va ?_ | refine ⟨_, hA, ?_⟩ | refine ⟨_, hB, ?_⟩ | (refine ⟨by kernel_rfl, .agg #[.string (bs a), .string (bs b)], by kernel_rfl, ?_⟩) | exact True.intro | refine Av.Vb ?_ | exact ⟨rfl, rfl, rfl⟩ | exact ⟨rfl, rfl⟩ | (refine Av.Vc ?_ ?_ <;> intro hBr <;> first | (exfalso; omega) | (exfalso; contradiction) | (exfalso; exact hBr rfl) | skip) | refine Av.Vd ?_ | exact rfl)
 refine ⟨[17, 16, 8, 7, 4], [], fun vs bl => (vs = [Z 0, .ex (.agg #[.string (bs a), .string (bs b)]), Z (-1), .ptr 0 0, .ptr 1 0] ∧ bl = [⟨rtC 0 0 0 0, none, false, true⟩, ⟨rtC 0 0 0 0, none, false, true⟩])
   ∨ (vs = [Z 1, .ex (.agg #[.string (bs a), .string (bs b)]), Z (0), .ptr 0 0, .ptr 1 0] ∧ bl = [⟨rtC g0 a0 z0 u0, none, false, true⟩, ⟨rtC 0 0 0 0, none, false, true⟩])
   ∨ (vs = [Z 2, .ex (.agg #[.string (bs a), .string (bs b)]), Z (0), .ptr 0 0, .ptr 1 0] ∧ bl = [⟨rtC g0 a0 z0 u0, none, false, true⟩, ⟨rtC 0 0 0 0, none, false, true⟩]),
  fun vs bl => match vs with | [.ex (.int _ i), _, _, _, _] => 2 - i.toNat | _ => 0, ?_, ?_⟩
 ·exact .inl ⟨rfl, rfl⟩
 rintro vs bl (⟨rfl, rfl⟩ | ⟨rfl, rfl⟩ | ⟨rfl, rfl⟩)
 ·refine Av.Wk ?_
  exact ⟨.inr (.inl ⟨rfl, rfl⟩), (by show 2 - ((0 : Int) + 1).toNat < 2 - (0 : Int).toNat; decide)⟩
 ·refine Av.Wk ?_
  exact ⟨.inr (.inr ⟨rfl, rfl⟩), (by show 2 - ((1 : Int) + 1).toNat < 2 - (1 : Int).toNat; decide)⟩
 ·exact Av.W
theorem rpick_yn (a b : List UInt8) (g0 a0 z0 u0 g1 a1 z1 u1 e0 e1 : Int) (h0 : e0 = 0) (h1 : e1 ≠ 0) (hg : 1 ≤ g0) (hA : SP 194 [T a] (.tup [rt g0 a0 z0 u0, Z e0])) (hB : SP 194 [T b] (.tup [rt g1 a1 z1 u1, Z e1])) :
  SP 145 [T a, T b] (.tup [rt g0 a0 z0 u0, Z 0, Z 0]) := by
 refine S_ Tryz.func145 (by kernel_rfl) rfl (Nat.le_of_ble_eq_true rfl) ?_
 show avc Tryz.prog SP _ _ _ _ _ _
 dsimp only [avc, startS, Array.toList, Tryz.f145]
 exact Av.W
theorem pick_ny (a b : List UInt8) (g0 a0 z0 u0 g1 a1 z1 u1 e0 e1 : Int) (h0 : e0 ≠ 0) (h1 : e1 = 0) (hg : 1 ≤ g1) (hA : SP 189 [T a] (.tup [rt g0 a0 z0 u0, Z e0])) (hB : SP 189 [T b] (.tup [rt g1 a1 z1 u1, Z e1])) :
  SP 139 [T a, T b] (.tup [rt g1 a1 z1 u1, Z 1, Z 0]) := by
 refine S_ Tryz.func139 (by kernel_rfl) rfl (Nat.le_of_ble_eq_true rfl) ?_
 show avc Tryz.prog SP _ _ _ _ _ _
 dsimp only [avc, startS, Array.toList, Tryz.f139]
 repeat' ((try conv => whnf) <;> first | refine Av.Va ?_ | refine ⟨_, hA, ?_⟩ | refine ⟨_, hB, ?_⟩ | (refine ⟨by kernel_rfl, .agg #[.string (bs a), .string (bs b)], by kernel_rfl, ?_⟩) | exact True.intro | refine Av.Vb ?_ | exact ⟨rfl, rfl, rfl⟩ | exact ⟨rfl, rfl⟩ | (refine Av.Vc ?_ ?_ <;> intro hBr <;> first | (exfalso; omega) | (exfalso; contradiction) | (exfalso; exact hBr rfl) | skip) | refine Av.Vd ?_ | exact rfl)
 refine ⟨[17, 16, 8, 7, 4], [], fun vs bl => (vs = [Z 0, .ex (.agg #[.string (bs a), .string (bs b)]), Z (-1), .ptr 0 0, .ptr 1 0] ∧ bl = [⟨rtC 0 0 0 0, none, false, true⟩, ⟨rtC 0 0 0 0, none, false, true⟩])
   ∨ (vs = [Z 1, .ex (.agg #[.string (bs a), .string (bs b)]), Z (-1), .ptr 0 0, .ptr 1 0] ∧ bl = [⟨rtC 0 0 0 0, none, false, true⟩, ⟨rtC 0 0 0 0, none, false, true⟩])
   ∨ (vs = [Z 2, .ex (.agg #[.string (bs a), .string (bs b)]), Z (1), .ptr 0 0, .ptr 1 0] ∧ bl = [⟨rtC g1 a1 z1 u1, none, false, true⟩, ⟨rtC 0 0 0 0, none, false, true⟩]),
  fun vs bl => match vs with | [.ex (.int _ i), _, _, _, _] => 2 - i.toNat | _ => 0, ?_, ?_⟩
 ·exact .inl ⟨rfl, rfl⟩
 rintro vs bl (⟨rfl, rfl⟩ | ⟨rfl, rfl⟩ | ⟨rfl, rfl⟩)
 ·refine Av.Wk ?_
  exact ⟨.inr (.inl ⟨rfl, rfl⟩), (by show 2 - ((0 : Int) + 1).toNat < 2 - (0 : Int).toNat; decide)⟩
 ·refine Av.Wk ?_
  exact ⟨.inr (.inr ⟨rfl, rfl⟩), (by show 2 - ((1 : Int) + 1).toNat < 2 - (1 : Int).toNat; decide)⟩
 ·exact Av.W
theorem rpick_ny (a b : List UInt8) (g0 a0 z0 u0 g1 a1 z1 u1 e0 e1 : Int) (h0 : e0 ≠ 0) (h1 : e1 = 0) (hg : 1 ≤ g1) (hA : SP 194 [T a] (.tup [rt g0 a0 z0 u0, Z e0])) (hB : SP 194 [T b] (.tup [rt g1 a1 z1 u1, Z e1])) :
  SP 145 [T a, T b] (.tup [rt g1 a1 z1 u1, Z 1, Z 0]) := by
 refine S_ Tryz.func145 (by kernel_rfl) rfl (Nat.le_of_ble_eq_true rfl) ?_
 show avc Tryz.prog SP _ _ _ _ _ _
 dsimp only [avc, startS, Array.toList, Tryz.f145]
 exact Av.W
theorem pick_gt (a b : List UInt8) (g0 a0 z0 u0 g1 a1 z1 u1 e0 e1 : Int) (h0 : e0 = 0) (h1 : e1 = 0) (hg : 1 ≤ g0) (hl : g0 < g1) (hA : SP 189 [T a] (.tup [rt g0 a0 z0 u0, Z e0])) (hB : SP 189 [T b] (.tup [rt g1 a1 z1 u1, Z e1])) :
  SP 139 [T a, T b] (.tup [rt g1 a1 z1 u1, Z 1, Z 0]) := by
 refine S_ Tryz.func139 (by kernel_rfl) rfl (Nat.le_of_ble_eq_true rfl) ?_
 show avc Tryz.prog SP _ _ _ _ _ _
 dsimp only [avc, startS, Array.toList, Tryz.f139]
 repeat' ((try conv => whnf) <;> first | refine Av.Va ?_ | refine ⟨_, hA, ?_⟩ | refine ⟨_, hB, ?_⟩ | (refine ⟨by kernel_rfl, .agg #[.string (bs a), .string (bs b)], by kernel_rfl, ?_⟩) | exact True.intro | refine Av.Vb ?_ | exact ⟨rfl, rfl, rfl⟩ | exact ⟨rfl, rfl⟩ | (refine Av.Vc ?_ ?_ <;> intro hBr <;> first | (exfalso; omega) | (exfalso; contradiction) | (exfalso; exact hBr rfl) | skip) | refine Av.Vd ?_ | exact rfl)
 refine ⟨[17, 16, 8, 7, 4], [], fun vs bl => (vs = [Z 0, .ex (.agg #[.string (bs a), .string (bs b)]), Z (-1), .ptr 0 0, .ptr 1 0] ∧ bl = [⟨rtC 0 0 0 0, none, false, true⟩, ⟨rtC 0 0 0 0, none, false, true⟩])
   ∨ (vs = [Z 1, .ex (.agg #[.string (bs a), .string (bs b)]), Z (0), .ptr 0 0, .ptr 1 0] ∧ bl = [⟨rtC g0 a0 z0 u0, none, false, true⟩, ⟨rtC 0 0 0 0, none, false, true⟩])
   ∨ (vs = [Z 2, .ex (.agg #[.string (bs a), .string (bs b)]), Z (1), .ptr 0 0, .ptr 1 0] ∧ bl = [⟨rtC g1 a1 z1 u1, none, false, true⟩, ⟨rtC 0 0 0 0, none, false, true⟩]),
  fun vs bl => match vs with | [.ex (.int _ i), _, _, _, _] => 2 - i.toNat | _ => 0, ?_, ?_⟩
 ·exact .inl ⟨rfl, rfl⟩
 rintro vs bl (⟨rfl, rfl⟩ | ⟨rfl, rfl⟩ | ⟨rfl, rfl⟩)
 ·refine Av.Wk ?_
  exact ⟨.inr (.inl ⟨rfl, rfl⟩), (by show 2 - ((0 : Int) + 1).toNat < 2 - (0 : Int).toNat; decide)⟩
 ·refine Av.Wk ?_
  exact ⟨.inr (.inr ⟨rfl, rfl⟩), (by show 2 - ((1 : Int) + 1).toNat < 2 - (1 : Int).toNat; decide)⟩
 ·exact Av.W
theorem rpick_gt (a b : List UInt8) (g0 a0 z0 u0 g1 a1 z1 u1 e0 e1 : Int) (h0 : e0 = 0) (h1 : e1 = 0) (hg : 1 ≤ g0) (hl : g0 < g1) (hA : SP 194 [T a] (.tup [rt g0 a0 z0 u0, Z e0])) (hB : SP 194 [T b] (.tup [rt g1 a1 z1 u1, Z e1])) :
  SP 145 [T a, T b] (.tup [rt g1 a1 z1 u1, Z 1, Z 0]) := by
 refine S_ Tryz.func145 (by kernel_rfl) rfl (Nat.le_of_ble_eq_true rfl) ?_
 show avc Tryz.prog SP _ _ _ _ _ _
 dsimp only [avc, startS, Array.toList, Tryz.f145]
 exact Av.W
theorem pick_le (a b : List UInt8) (g0 a0 z0 u0 g1 a1 z1 u1 e0 e1 : Int) (h0 : e0 = 0) (h1 : e1 = 0) (hg : 1 ≤ g0) (hl : g1 ≤ g0) (hA : SP 189 [T a] (.tup [rt g0 a0 z0 u0, Z e0])) (hB : SP 189 [T b] (.tup [rt g1 a1 z1 u1, Z e1])) :
  SP 139 [T a, T b] (.tup [rt g0 a0 z0 u0, Z 0, Z 0]) := by
 refine S_ Tryz.func139 (by kernel_rfl) rfl (Nat.le_of_ble_eq_true rfl) ?_
 show avc Tryz.prog SP _ _ _ _ _ _
 dsimp only [avc, startS, Array.toList, Tryz.f139]
 repeat' ((try conv => whnf) <;> first | refine Av.Va ?_ | refine ⟨_, hA, ?_⟩ | refine ⟨_, hB, ?_⟩ | (refine ⟨by kernel_rfl, .agg #[.string (bs a), .string (bs b)], by kernel_rfl, ?_⟩) | exact True.intro | refine Av.Vb ?_ | exact ⟨rfl, rfl, rfl⟩ | exact ⟨rfl, rfl⟩ | (refine Av.Vc ?_ ?_ <;> intro hBr <;> first | (exfalso; omega) | (exfalso; contradiction) | (exfalso; exact hBr rfl) | skip) | refine Av.Vd ?_ | exact rfl)
 refine ⟨[17, 16, 8, 7, 4], [], fun vs bl => (vs = [Z 0, .ex (.agg #[.string (bs a), .string (bs b)]), Z (-1), .ptr 0 0, .ptr 1 0] ∧ bl = [⟨rtC 0 0 0 0, none, false, true⟩, ⟨rtC 0 0 0 0, none, false, true⟩])
   ∨ (vs = [Z 1, .ex (.agg #[.string (bs a), .string (bs b)]), Z (0), .ptr 0 0, .ptr 1 0] ∧ bl = [⟨rtC g0 a0 z0 u0, none, false, true⟩, ⟨rtC 0 0 0 0, none, false, true⟩])
   ∨ (vs = [Z 2, .ex (.agg #[.string (bs a), .string (bs b)]), Z (0), .ptr 0 0, .ptr 1 0] ∧ bl = [⟨rtC g0 a0 z0 u0, none, false, true⟩, ⟨rtC 0 0 0 0, none, false, true⟩]),
  fun vs bl => match vs with | [.ex (.int _ i), _, _, _, _] => 2 - i.toNat | _ => 0, ?_, ?_⟩
 ·exact .inl ⟨rfl, rfl⟩
 rintro vs bl (⟨rfl, rfl⟩ | ⟨rfl, rfl⟩ | ⟨rfl, rfl⟩)
 ·refine Av.Wk ?_
  exact ⟨.inr (.inl ⟨rfl, rfl⟩), (by show 2 - ((0 : Int) + 1).toNat < 2 - (0 : Int).toNat; decide)⟩
 ·refine Av.Wk ?_
  exact ⟨.inr (.inr ⟨rfl, rfl⟩), (by show 2 - ((1 : Int) + 1).toNat < 2 - (1 : Int).toNat; decide)⟩
 ·exact Av.W
theorem rpick_le (a b : List UInt8) (g0 a0 z0 u0 g1 a1 z1 u1 e0 e1 : Int) (h0 : e0 = 0) (h1 : e1 = 0) (hg : 1 ≤ g0) (hl : g1 ≤ g0) (hA : SP 194 [T a] (.tup [rt g0 a0 z0 u0, Z e0])) (hB : SP 194 [T b] (.tup [rt g1 a1 z1 u1, Z e1])) :
  SP 145 [T a, T b] (.tup [rt g0 a0 z0 u0, Z 0, Z 0]) := by
 refine S_ Tryz.func145 (by kernel_rfl) rfl (Nat.le_of_ble_eq_true rfl) ?_
 show avc Tryz.prog SP _ _ _ _ _ _
 dsimp only [avc, startS, Array.toList, Tryz.f145]
 exact Av.W
end Go.Proofs.YtbaedepmogkkeaaGreat.Av
namespace Go.Proofs.YtbaedepmogkkeaaGreat.Av
open Go Go.RowKit Tre
set_option linter.unusedVariables false
set_option linter.unusedSimpArgs false
set_option maxRecDepth 100000
set_option maxHeartbeats 4000000
theorem crcsum_ok (l : List UInt8) (hs : l.length ≤ 9223372036854775807) : SP 148 [T l] (.ex (.int .u32 (Crc.sum l).toNat)) :=
 sound_ex (vs := [.string (bs l)]) Tryz.func148 (by kernel_rfl) rfl (fun w => (sum_any l w hs).mono fun e w' ⟨h, h2⟩ => ⟨h, h2 ▸ Below.refl _ _⟩)
theorem rcrcsum_ok (l : List UInt8) (hs : l.length ≤ 9223372036854775807) : SP 153 [T l] (.ex (.int .u32 (Crc.sum l).toNat)) :=
 sound_ex (vs := [.string (bs l)]) Tryz.func153 (by kernel_rfl) rfl (fun w => (refsum_any l w hs).mono fun e w' ⟨h, h2⟩ => ⟨h, h2 ▸ Below.refl _ _⟩)
structure Dd where
 sync : Bool
 pl : Nat
 text : List UInt8
def ddC (l : List Dd) : List AV := l.flatMap fun x => [B x.sync, Z x.pl, T x.text]
abbrev ddB (l : List Dd) (fz : Bool) : ABlk := ⟨ddC l, some 174, fz, true⟩
theorem hsD : sizeT Tryz.prog 174 = 3 := by kernel_rfl
theorem ddC_len (l : List Dd) : (ddC l).length = l.length * 3 := by
 induction l with
 | nil => rfl
 | cons o l ih => simp only [ddC, List.flatMap_cons, List.length_append, List.length_cons, List.length_nil] at *; omega
theorem ddC_app (a b : List Dd) : ddC (a ++ b) = ddC a ++ ddC b := by simp [ddC]
theorem room_d {k : Nat} (hk : k ≤ 1000000) : room k (bytesT Tryz.prog 174) := by
 rw [show bytesT Tryz.prog 174 = 32 by kernel_rfl]; unfold room; omega
theorem one_d (b : Bool) (i : Int) (s : List UInt8) : ([B b, Z i, T s] : List AV).length = 1 * sizeT Tryz.prog 174 ∧ ∀ u ∈ ([B b, Z i, T s] : List AV), one1 u = true := by
 rw [hsD]
 refine ⟨rfl, fun u hu => ?_⟩
 simp only [List.mem_cons, List.not_mem_nil, or_false] at hu
 rcases hu with rfl | rfl | rfl <;> rfl
abbrev ls0 : ABlk := ⟨[nilA], none, false, true⟩
abbrev ls1 (n : Nat) : ABlk := ⟨[.sl 1 n], none, false, false⟩
abbrev shA (A L : Nat) : AV := .ex (.agg #[.int .i64 A, .int .i64 L])
def areaA (A a : Nat) : Nat := 2 + a * A
theorem area_ok {A L a : Nat} (ha : a ≤ 2) (hA : A ≤ 100000) : SP 140 [shA A L, Z a] (Z (areaA A a)) := by
 have h : areaA A a = 2 + a * A := rfl
 have h3 : (a : Int) * (A : Int) = ((a * A : Nat) : Int) := by rw [Int.natCast_mul]
 have h2 : a * A ≤ 200000 := Nat.le_trans (Nat.mul_le_mul ha hA) (by omega)
 have h4 : inR ((a : Int) * (A : Int)) := by rw [h3]; exact ⟨by omega, by omega⟩
 have h5 : inR (2 + (a : Int) * (A : Int)) := by rw [h3]; exact ⟨by omega, by omega⟩
 have h6 : ((areaA A a : Nat) : Int) = 2 + (a : Int) * (A : Int) := by rw [h, h3]; omega
 rw [h6]
 clear h h2 h3 h6
 refine S_ Tryz.func140 (by kernel_rfl) rfl (Nat.le_of_ble_eq_true rfl) ?_
 show avc Tryz.prog SP _ _ _ _ _ _
 dsimp only [avc, startS, Array.toList, Tryz.f140]
 exact Av.W
theorem log_ok {A L : Nat} (hA : A ≤ 100000) : SP 86 [shA A L] (Z (areaA A 2)) := by
 have c := area_ok (L := L) (show 2 ≤ 2 by omega) hA
 refine S_ Tryz.func86 (by kernel_rfl) rfl (Nat.le_of_ble_eq_true rfl) ?_
 show avc Tryz.prog SP _ _ _ _ _ _
 dsimp only [avc, startS, Array.toList, Tryz.f86]
 exact Av.W
def OkSh (A L : Int) : Prop := 1 ≤ A ∧ A ≤ 512 ∧ 32 ≤ L ∧ L ≤ 256
abbrev shI (A L : Int) : AV := .ex (.agg #[.int .i64 A, .int .i64 L])
instance okSh_dec (A L : Int) : Decidable (OkSh A L) := by unfold OkSh; infer_instance
theorem right_ok (A L : Int) : SP 29 [shI A L] (B (decide (OkSh A L))) := by
 by_cases h : OkSh A L
 ·rw [decide_eq_true h]
  obtain ⟨h1, h2, h3, h4⟩ := h
  have e : decide (L ≤ 256) = true := decide_eq_true h4
  refine S_ Tryz.func29 (by kernel_rfl) rfl (Nat.le_of_ble_eq_true rfl) ?_
  show avc Tryz.prog SP _ _ _ _ _ _
  dsimp only [avc, startS, Array.toList, Tryz.f29]
  repeat' ((try conv => whnf) <;> first | refine Av.Va ?_ | (exact congrArg (fun b => AV.ex (Value.bool b)) e) | exact True.intro | refine Av.Vb ?_ | exact ⟨rfl, rfl, rfl⟩ | exact ⟨rfl, rfl⟩ | (refine Av.Vc ?_ ?_ <;> intro hBr <;> first | (exfalso; omega) | (exfalso; contradiction) | (exfalso; exact hBr rfl) | skip) | refine Av.Vd ?_ | exact rfl)
 ·rw [decide_eq_false h]
  have h : A < 1 ∨ 1 ≤ A ∧ (512 < A ∨ A ≤ 512 ∧ (L < 32 ∨ 32 ≤ L ∧ ¬ L ≤ 256)) := by unfold OkSh at h; omega
  rcases h with h | ⟨h, h2 | ⟨h2, h3 | ⟨h3, h4⟩⟩⟩
  ·refine S_ Tryz.func29 (by kernel_rfl) rfl (Nat.le_of_ble_eq_true rfl) ?_ -- G
   exact Av.W
  ·refine S_ Tryz.func29 (by kernel_rfl) rfl (Nat.le_of_ble_eq_true rfl) ?_ -- G
   exact Av.W
  ·refine S_ Tryz.func29 (by kernel_rfl) rfl (Nat.le_of_ble_eq_true rfl) ?_ -- G
   exact Av.W
  ·have e : decide (L ≤ 256) = false := decide_eq_false h4
   refine S_ Tryz.func29 (by kernel_rfl) rfl (Nat.le_of_ble_eq_true rfl) ?_
   show avc Tryz.prog SP _ _ _ _ _ _
   dsimp only [avc, startS, Array.toList, Tryz.f29]
   repeat' ((try conv => whnf) <;> first | refine Av.Va ?_ | (exact congrArg (fun b => AV.ex (Value.bool b)) e) | exact True.intro | refine Av.Vb ?_ | exact ⟨rfl, rfl, rfl⟩ | exact ⟨rfl, rfl⟩ | (refine Av.Vc ?_ ?_ <;> intro hBr <;> first | (exfalso; omega) | (exfalso; contradiction) | (exfalso; exact hBr rfl) | skip) | refine Av.Vd ?_ | exact rfl)
theorem lwrite_nil (n : Int) (s : List UInt8) : SM 109 [.ptr 0 0, Z n, T s] [ls0] [.ptr 0 0] (.tup []) [ls1 1, ⟨[B false, Z n, T s], some 174, false, true⟩] := by
 have h := one_d false n s
 have hr : room 1 (bytesT Tryz.prog 174) := room_d (by omega)
 refine SM_ Tryz.func109 (by kernel_rfl) rfl (Nat.le_of_ble_eq_true rfl) (show 1 ≤ 3 by omega) ?_
 show avc Tryz.prog SP _ _ _ _ _ _
 dsimp only [avc, startS, Array.toList, Tryz.f109]
 repeat' ((try conv => whnf) <;> first | refine Av.Va ?_ | (refine ⟨true, ?_⟩) | (refine And.intro ⟨hr, h⟩ ?_) | exact True.intro | refine Av.Vb ?_ | exact ⟨rfl, rfl, rfl⟩ | exact ⟨rfl, rfl⟩ | (refine Av.Vc ?_ ?_ <;> intro hBr <;> first | (exfalso; omega) | (exfalso; contradiction) | (exfalso; exact hBr rfl) | skip) | refine Av.Vd ?_ | exact rfl)
theorem lwrite_app (k : Nat) (C : List AV) (fz : Bool) (hC : C.length = k * 3) (hk : k ≤ 900000) (n : Int) (s : List UInt8) : SM 109 [.ptr 0 0, Z n, T s] [ls1 k, ⟨C, some 174, fz, true⟩] [.ptr 0 0] (.tup []) [ls1 (k + 1), ⟨C ++ [B false, Z n, T s], some 174, fz, true⟩] := by
 have h := one_d false n s
 have hr : room (k + 1) (bytesT Tryz.prog 174) := room_d (by omega)
 have hl : C.length = k * sizeT Tryz.prog 174 := by rw [hsD]; exact hC
 refine SM_ Tryz.func109 (by kernel_rfl) rfl (Nat.le_of_ble_eq_true rfl) (show 1 ≤ 3 by omega) ?_
 show avc Tryz.prog SP _ _ _ _ _ _
 dsimp only [avc, startS, Array.toList, Tryz.f109]
 repeat' ((try conv => whnf) <;> first | refine Av.Va ?_ | (refine ⟨true, ?_⟩) | (refine And.intro ⟨hr, hl, h⟩ ?_) | exact True.intro | refine Av.Vb ?_ | exact ⟨rfl, rfl, rfl⟩ | exact ⟨rfl, rfl⟩ | (refine Av.Vc ?_ ?_ <;> intro hBr <;> first | (exfalso; omega) | (exfalso; contradiction) | (exfalso; exact hBr rfl) | skip) | refine Av.Vd ?_ | exact rfl)
theorem lsync_app (k : Nat) (C : List AV) (fz : Bool) (hC : C.length = k * 3) (hk : k ≤ 900000) : SM 110 [.ptr 0 0] [ls1 k, ⟨C, some 174, fz, true⟩] [.ptr 0 0] (.tup []) [ls1 (k + 1), ⟨C ++ [B true, Z 0, T []], some 174, fz, true⟩] := by
 have h := one_d true 0 []
 have hr : room (k + 1) (bytesT Tryz.prog 174) := room_d (by omega)
 have hl : C.length = k * sizeT Tryz.prog 174 := by rw [hsD]; exact hC
 refine SM_ Tryz.func110 (by kernel_rfl) rfl (Nat.le_of_ble_eq_true rfl) (Nat.le_refl 1) ?_
 show avc Tryz.prog SP _ _ _ _ _ _
 dsimp only [avc, startS, Array.toList, Tryz.f110]
 repeat' ((try conv => whnf) <;> first | refine Av.Va ?_ | (refine ⟨true, ?_⟩) | (refine And.intro ⟨hr, hl, h⟩ ?_) | exact True.intro | refine Av.Vb ?_ | exact ⟨rfl, rfl, rfl⟩ | exact ⟨rfl, rfl⟩ | (refine Av.Vc ?_ ?_ <;> intro hBr <;> first | (exfalso; omega) | (exfalso; contradiction) | (exfalso; exact hBr rfl) | skip) | refine Av.Vd ?_ | exact rfl)
def shD (A a g : Nat) (X : List UInt8) (k : Nat) : List Dd := (List.range k).map fun i => ⟨false, areaA A a + i, sec (mkG g i) (pc X i)⟩
theorem shD_len (A a g : Nat) (X : List UInt8) (k : Nat) : (shD A a g X k).length = k := by simp [shD]
theorem shD_succ (A a g : Nat) (X : List UInt8) (k : Nat) : shD A a g X (k + 1) = shD A a g X k ++ [⟨false, areaA A a + k, sec (mkG g k) (pc X k)⟩] := by simp [shD, List.range_succ]
def endD (g a z u : Nat) : List Dd := [⟨true, 0, []⟩, ⟨false, g % 2, rootS g a z u⟩, ⟨true, 0, []⟩]
def layD (A : Nat) (X : List UInt8) (g a z u : Nat) : List Dd := shD A a g X (npc X) ++ endD g a z u
theorem layD_len (A : Nat) (X : List UInt8) (g a z u : Nat) : (layD A X g a z u).length = npc X + 3 := by unfold layD endD; rw [List.length_append, shD_len]; rfl
theorem llay_walk {t : Tr} (tv : AV) (htv : tv = zTr ∨ tv = trA t) (A L g a z u : Nat) (hA : A ≤ 512) (hn : npc (Shf.encB t.toL) ≤ A) (hg : 1 ≤ g ∧ g ≤ 1099511627776) (ha : a ≤ 1) (hz : z ≤ 24576) (hu : u < 4294967296)
  (c1 : SP 14 [tv, U g, Z A] (.tup [.own 9 (npc (Shf.encB t.toL)) (secs g (Shf.encB t.toL) (npc (Shf.encB t.toL))), Z 0])) :
  SM 99 [.ptr 0 0, shA A L, tv, rt g a z u] [ls0] [.ptr 0 0] (.tup []) [ls1 (npc (Shf.encB t.toL) + 3), ddB (layD A (Shf.encB t.toL) g a z u) false] := by
 have hl0 : (Shf.encB t.toL).length ≤ 48 * npc (Shf.encB t.toL) := by unfold npc; omega
 have c2 := area_ok (A := A) (L := L) (a := a) (by omega) (by omega)
 have c3 := rseal_ok (g := g) (a := a) (z := z) (u := u) ⟨by omega, by omega, by omega, by omega, by omega⟩ hu
 have c4 := slot_ok (g := g) (a := a) (z := z) (u := u) (by omega) (by omega)
 rw [show (g : Int) % 2 = ((g % 2 : Nat) : Int) by omega] at c4
 have hpos : 0 < npc (Shf.encB t.toL) := by unfold npc; rw [Shf.encB_len]; omega
 have hfin : ddC (layD A (Shf.encB t.toL) g a z u) = ((ddC (shD A a g (Shf.encB t.toL) (npc (Shf.encB t.toL))) ++ [B true, Z 0, T []]) ++ [B false, Z ((g % 2 : Nat) : Int), T (rootS g a z u)]) ++ [B true, Z 0, T []] := by
  unfold layD endD; rw [ddC_app]; simp [ddC]
 have hAa : areaA A a ≤ 1000 := by
  have : a * A ≤ 1 * A := Nat.mul_le_mul ha (Nat.le_refl _)
  unfold areaA; omega
 show SM _ _ _ _ _ [ls1 (npc (Shf.encB t.toL) + 3), ⟨ddC (layD A (Shf.encB t.toL) g a z u), some 174, false, true⟩]
 rw [hfin]
 clear hl0 hfin
 generalize Shf.encB t.toL = X at *
 obtain ⟨N, hN⟩ : ∃ N, N = npc X := ⟨_, rfl⟩
 rw [← hN] at hn c1 hpos ⊢
 obtain ⟨R, hR⟩ : ∃ R, R = rootS g a z u := ⟨_, rfl⟩
 rw [← hR] at c3 ⊢
 obtain ⟨G, hG⟩ : ∃ G, G = g % 2 := ⟨_, rfl⟩
 rw [← hG] at c4 ⊢
 have hs1 : sizeT Tryz.prog 9 = 1 := by kernel_rfl
 rcases htv with rfl | rfl
 all_goals
  refine SM_ Tryz.func99 (by kernel_rfl) rfl (Nat.le_of_ble_eq_true rfl) (show 1 ≤ 4 by omega) ?_
  show avc Tryz.prog SP _ _ _ _ _ _
  dsimp only [avc, startS, Array.toList, Tryz.f99]
  repeat' ((try conv => whnf) <;> first | refine Av.Va ?_ | refine ⟨_, c1, ?_⟩ | exact True.intro | refine Av.Vb ?_ | exact ⟨rfl, rfl, rfl⟩ | exact ⟨rfl, rfl⟩ | (refine Av.Vc ?_ ?_ <;> intro hBr <;> first | (exfalso; omega) | (exfalso; contradiction) | (exfalso; exact hBr rfl) | skip) | refine Av.Vd ?_ | exact rfl)
  refine ⟨[25, 24, 23, 0, 5, 7], [], fun vs bl => ∃ (i : Nat) (C : List AV), i ≤ N ∧ C = ddC (shD A a g X i) ∧ vs = [Z i, Z N, .sl 0 N, .ptr 1 0, .ptr 2 0, .ptr 3 0] ∧
   (i = 0 ∧ bl = [⟨secs g X N, some 9, true, true⟩, ls0, ⟨[Z A, Z L], none, false, true⟩, ⟨rtC g a z u, none, false, true⟩] ∨
    0 < i ∧ bl = [⟨secs g X N, some 9, true, true⟩, ⟨[.sl 4 i], none, false, false⟩, ⟨[Z A, Z L], none, false, true⟩, ⟨rtC g a z u, none, false, true⟩, ⟨C, some 174, false, true⟩]), muI N, ?_, ?_⟩
  ·exact ⟨0, _, by omega, rfl, rfl, .inl ⟨rfl, rfl⟩⟩
  clear c1
  rintro vs bl ⟨i, C, hi, hC, rfl, hb⟩
  have hCl : C.length = i * 3 := by rw [hC, ddC_len, shD_len]
  by_cases hik : i < N
  ·have hat : (secs g X N)[mulS (i : Int).toNat (sizeT Tryz.prog 9) + 0]? = some (T (sec (mkG g i) (pc X i))) := by rw [hs1, mulS_eq, Nat.mul_one, Int.toNat_natCast]; simp [secs, hik]
   have hdec : muI N [Z ((i : Int) + 1)] [] < muI N [Z i] [] := by show N - ((i : Int) + 1).toNat < N - (i : Int).toNat; omega
   have hst : C ++ [B false, Z ((areaA A a : Nat) + (i : Int)), T (sec (mkG g i) (pc X i))] = ddC (shD A a g X (i + 1)) := by
    rw [shD_succ, ddC_app, hC, show ((areaA A a : Nat) : Int) + (i : Int) = ((areaA A a + i : Nat) : Int) by omega]; rfl
   generalize sec (mkG g i) (pc X i) = S at *
   have w1 := lwrite_nil ((areaA A a : Nat) + (i : Int)) S
   have w2 := lwrite_app i C false hCl (by omega) ((areaA A a : Nat) + (i : Int)) S
   rcases hb with ⟨h0, rfl⟩ | ⟨h0, rfl⟩
   ·have hC0 : C = [] := by rw [hC, h0]; rfl
    rw [hC0, List.nil_append] at hst
    clear hC hC0 w2 hR hG
    generalize areaA A a = AA at *
    subst h0
    repeat' ((try conv => whnf) <;> first | refine Av.Va ?_ | (refine ⟨_, hat, ?_⟩) | refine ⟨_, c2, ?_⟩ | refine ⟨_, _, _, w1, ?_⟩ | exact True.intro | refine Av.Vb ?_ | exact ⟨rfl, rfl, rfl⟩ | exact ⟨rfl, rfl⟩ | (refine Av.Vc ?_ ?_ <;> intro hBr <;> first | (exfalso; omega) | (exfalso; contradiction) | (exfalso; exact hBr rfl) | skip) | refine Av.Vd ?_ | exact rfl)
    exact ⟨⟨1, _, by omega, hst, rfl, .inr ⟨by omega, rfl⟩⟩, hdec⟩
   ·clear hC w1 hR hG
    generalize areaA A a = AA at *
    repeat' ((try conv => whnf) <;> first | refine Av.Va ?_ | (refine ⟨_, hat, ?_⟩) | refine ⟨_, c2, ?_⟩ | refine ⟨_, _, _, w2, ?_⟩ | exact True.intro | refine Av.Vb ?_ | exact ⟨rfl, rfl, rfl⟩ | exact ⟨rfl, rfl⟩ | (refine Av.Vc ?_ ?_ <;> intro hBr <;> first | (exfalso; omega) | (exfalso; contradiction) | (exfalso; exact hBr rfl) | skip) | refine Av.Vd ?_ | exact rfl)
    exact ⟨⟨i + 1, _, by omega, hst, rfl, .inr ⟨by omega, rfl⟩⟩, hdec⟩
  ·obtain rfl : i = N := by omega
   rcases hb with ⟨h0, rfl⟩ | ⟨h0, rfl⟩
   ·omega
   have w1 := lsync_app i C false hCl (by omega)
   have w2 := lwrite_app (i + 1) (C ++ [B true, Z 0, T []]) false (by rw [List.length_append, hCl]; simp; omega) (by omega) ((G : Nat) : Int) R
   have w3 := lsync_app (i + 1 + 1) ((C ++ [B true, Z 0, T []]) ++ [B false, Z ((G : Nat) : Int), T R]) false (by rw [List.length_append, List.length_append, hCl]; simp; omega) (by omega)
   rw [← hC]
   clear hC hR hG c2
   repeat' ((try conv => whnf) <;> first | refine Av.Va ?_ | refine ⟨_, _, _, w1, ?_⟩ | refine ⟨_, c3, ?_⟩ | refine ⟨_, c4, ?_⟩ | refine ⟨_, _, _, w2, ?_⟩ | refine ⟨_, _, _, w3, ?_⟩ | exact True.intro | refine Av.Vb ?_ | exact ⟨rfl, rfl, rfl⟩ | exact ⟨rfl, rfl⟩ | (refine Av.Vc ?_ ?_ <;> intro hBr <;> first | (exfalso; omega) | (exfalso; contradiction) | (exfalso; exact hBr rfl) | skip) | refine Av.Vd ?_ | exact rfl)
theorem llay_ok {t : Tr} (h : MapS t) (A L g a z u : Nat) (hA : A ≤ 512) (hn : npc (Shf.encB t.toL) ≤ A) (hg : 1 ≤ g ∧ g ≤ 1099511627776) (ha : a ≤ 1) (hz : z ≤ 24576) (hu : u < 4294967296) :
  SM 99 [.ptr 0 0, shA A L, trA t, rt g a z u] [ls0] [.ptr 0 0] (.tup []) [ls1 (npc (Shf.encB t.toL) + 3), ddB (layD A (Shf.encB t.toL) g a z u) false] := by
 have hl0 : (Shf.encB t.toL).length ≤ 48 * npc (Shf.encB t.toL) := by unfold npc; omega
 exact llay_walk _ (.inr rfl) A L g a z u hA hn hg ha hz hu (lay_yes h g A (by omega) (by omega) hg (by omega))
theorem llay_z (A L g a z u : Nat) (hA : A ≤ 512) (hA1 : 1 ≤ A) (hg : 1 ≤ g ∧ g ≤ 1099511627776) (ha : a ≤ 1) (hz : z ≤ 24576) (hu : u < 4294967296) :
  SM 99 [.ptr 0 0, shA A L, zTr, rt g a z u] [ls0] [.ptr 0 0] (.tup []) [ls1 (npc (Shf.encB (Tr.nil).toL) + 3), ddB (layD A (Shf.encB (Tr.nil).toL) g a z u) false] := by
 have h : MapS .nil := ⟨Tr.good_nil, by decide, fun p hp => by cases hp⟩
 have hb : (Shf.encB (Tr.nil).toL).length = 4 := by rw [Shf.encB_len]; rfl
 have hn : npc (Shf.encB (Tr.nil).toL) = 1 := by unfold npc; rw [hb]
 exact llay_walk _ (.inl rfl) A L g a z u hA (by omega) hg ha hz hu (zwS (lay_yes h g A (by omega) (by omega) hg (by omega)))
theorem bytesL_ge : ∀ l : List Pr, 4 * l.length ≤ bytesL l
 | [] => by simp [bytesL]
 | (a, b) :: l => by have := bytesL_ge l; simp only [bytesL, List.length_cons]; omega
structure Fit (A : Nat) (t : Tr) : Prop where
 good : Tr.Good t
 fit : npc (Shf.encB t.toL) ≤ A
 top : A ≤ 512
theorem Fit.bytes {A : Nat} {t : Tr} (h : Fit A t) : 4 + bytesL t.toL ≤ 24576 := by
 have h1 := h.fit
 have h2 := h.top
 unfold npc at h1
 rw [Shf.encB_len] at h1
 omega
theorem Fit.encl {A : Nat} {t : Tr} (h : Fit A t) : (Shf.encB t.toL).length ≤ 24576 := by rw [Shf.encB_len]; exact h.bytes
theorem Fit.map {A : Nat} {t : Tr} (h : Fit A t) : MapS t := by
 have hb := h.bytes
 have hl := bytesL_ge t.toL
 refine ⟨h.good, by omega, fun x hx => ?_⟩
 have := key_le hx
 omega
theorem Fit.wt {A : Nat} {t : Tr} (h : Fit A t) : t.wt ≤ 24572 := by rw [Tr.wt_len]; have := h.bytes; omega
theorem Fit.cn {A : Nat} {t : Tr} (h : Fit A t) : t.cn ≤ 6144 := by rw [Tr.cn_len]; have := h.bytes; have := bytesL_ge t.toL; omega
def sumN (X : List UInt8) : Nat := (Crc.sum X).toNat
theorem sumN_lt (X : List UInt8) : sumN X < 4294967296 := (Crc.sum X).isLt
abbrev U32 (u : Int) : AV := .ex (.int .u32 u)
theorem stold_ok {A : Nat} {t : Tr} (h : Fit A t) : SP 98 [trA t] (.tup [Z (Shf.encB t.toL).length, U32 (sumN (Shf.encB t.toL))]) := by
 have c1 := enc_ok h.map
 have hl := h.encl
 have c2 := crcsum_ok (Shf.encB t.toL) (by omega)
 have hz := bs_size (Shf.encB t.toL)
 show SP _ _ (.tup [Z (Shf.encB t.toL).length, U32 ((Crc.sum (Shf.encB t.toL)).toNat)])
 rw [← hz]
 generalize (Crc.sum (Shf.encB t.toL)).toNat = u at *
 generalize Shf.encB t.toL = X at *
 refine S_ Tryz.func98 (by kernel_rfl) rfl (Nat.le_of_ble_eq_true rfl) ?_
 show avc Tryz.prog SP _ _ _ _ _ _
 dsimp only [avc, startS, Array.toList, Tryz.f98]
 repeat' ((try conv => whnf) <;> first | refine Av.Va ?_ | refine ⟨_, c1, ?_⟩ | refine ⟨_, c2, ?_⟩ | exact True.intro | refine Av.Vb ?_ | exact ⟨rfl, rfl, rfl⟩ | exact ⟨rfl, rfl⟩ | (refine Av.Vc ?_ ?_ <;> intro hBr <;> first | (exfalso; omega) | (exfalso; contradiction) | (exfalso; exact hBr rfl) | skip) | refine Av.Vd ?_ | exact rfl)
theorem holds_ok {A L : Nat} {t : Tr} (h : t.wt ≤ 1000000000000) : SP 104 [shA A L, trA t] (B (decide (npc (Shf.encB t.toL) ≤ A))) := by
 have h0 := Tr.wt_pos t
 have c1 := size_ok h
 have c2 := sectors_ok (4 + t.wt) (by omega)
 have e : 4 + t.wt = ((Shf.encB t.toL).length : Int) := by rw [Tr.wt_len, Shf.encB_len]; omega
 rw [e, cnt_npc] at c2
 rw [e] at c1
 generalize npc (Shf.encB t.toL) = n at *
 have e2 : decide ((n : Int) ≤ (A : Int)) = decide (n ≤ A) := decide_eq_decide.mpr (by omega)
 rw [← e2]
 clear e e2
 refine S_ Tryz.func104 (by kernel_rfl) rfl (Nat.le_of_ble_eq_true rfl) ?_
 show avc Tryz.prog SP _ _ _ _ _ _
 dsimp only [avc, startS, Array.toList, Tryz.f104]
 repeat' ((try conv => whnf) <;> first | refine Av.Va ?_ | refine ⟨_, c1, ?_⟩ | refine ⟨_, c2, ?_⟩ | refine ⟨[], [0,1,3,0,8,31,63], Av.len_ok rfl (by kernel_rfl), ?_⟩ | exact True.intro | refine Av.Vb ?_ | exact ⟨rfl, rfl, rfl⟩ | exact ⟨rfl, rfl⟩ | (refine Av.Vc ?_ ?_ <;> intro hBr <;> first | (exfalso; omega) | (exfalso; contradiction) | (exfalso; exact hBr rfl) | skip) | refine Av.Vd ?_ | exact rfl)
def nxA : Option Tr → AV
 | none => .ex .nilFunc
 | some t => .clo 111 [.vp [ndA t] 0]
abbrev stB (A L : Nat) (t : Tr) (g a z u pl : Nat) (nx : Option Tr) : ABlk := ⟨[Z A, Z L, ndA t, U g, Z a, Z z, U32 u, Z pl, nxA nx], none, false, true⟩
section
variable (A L : Nat) (t : Tr) (g a z u pl : Nat) (nx : Option Tr)
theorem sok_ok (hg : 1 ≤ g) : SM 96 [.ptr 0 0] [stB A L t g a z u pl nx] [.ptr 0 0] (B true) [stB A L t g a z u pl nx] := by
 have e : decide ((0 : Int) < (g : Int)) = true := decide_eq_true (by omega)
 cases nx
 all_goals
  refine SM_ Tryz.func96 (by kernel_rfl) rfl (Nat.le_of_ble_eq_true rfl) (Nat.le_refl 1) ?_
  show avc Tryz.prog SP _ _ _ _ _ _
  dsimp only [avc, startS, Array.toList, Tryz.f96]
  repeat' ((try conv => whnf) <;> first | refine Av.Va ?_ | (exact And.intro rfl (And.intro (congrArg (fun b => AV.ex (Value.bool b)) e) rfl)) | exact True.intro | refine Av.Vb ?_ | exact ⟨rfl, rfl, rfl⟩ | exact ⟨rfl, rfl⟩ | (refine Av.Vc ?_ ?_ <;> intro hBr <;> first | (exfalso; omega) | (exfalso; contradiction) | (exfalso; exact hBr rfl) | skip) | refine Av.Vd ?_ | exact rfl)
theorem stree_ok (hg : 1 ≤ g) : SM 37 [.ptr 0 0] [stB A L t g a z u pl nx] [.ptr 0 0] (trA t) [stB A L t g a z u pl nx] := by
 have c := sok_ok A L t g a z u pl nx hg
 cases nx
 all_goals
  refine SM_ Tryz.func37 (by kernel_rfl) rfl (Nat.le_of_ble_eq_true rfl) (Nat.le_refl 1) ?_
  show avc Tryz.prog SP _ _ _ _ _ _
  dsimp only [avc, startS, Array.toList, Tryz.f37]
  repeat' ((try conv => whnf) <;> first | refine Av.Va ?_ | refine ⟨_, _, _, c, ?_⟩ | exact True.intro | refine Av.Vb ?_ | exact ⟨rfl, rfl, rfl⟩ | exact ⟨rfl, rfl⟩ | (refine Av.Vc ?_ ?_ <;> intro hBr <;> first | (exfalso; omega) | (exfalso; contradiction) | (exfalso; exact hBr rfl) | skip) | refine Av.Vd ?_ | exact rfl)
theorem sgen_ok (hg : 1 ≤ g) : SM 51 [.ptr 0 0] [stB A L t g a z u pl nx] [.ptr 0 0] (U g) [stB A L t g a z u pl nx] := by
 have c := sok_ok A L t g a z u pl nx hg
 cases nx
 all_goals
  refine SM_ Tryz.func51 (by kernel_rfl) rfl (Nat.le_of_ble_eq_true rfl) (Nat.le_refl 1) ?_
  show avc Tryz.prog SP _ _ _ _ _ _
  dsimp only [avc, startS, Array.toList, Tryz.f51]
  repeat' ((try conv => whnf) <;> first | refine Av.Va ?_ | refine ⟨_, _, _, c, ?_⟩ | exact True.intro | refine Av.Vb ?_ | exact ⟨rfl, rfl, rfl⟩ | exact ⟨rfl, rfl⟩ | (refine Av.Vc ?_ ?_ <;> intro hBr <;> first | (exfalso; omega) | (exfalso; contradiction) | (exfalso; exact hBr rfl) | skip) | refine Av.Vd ?_ | exact rfl)
theorem sleft_ok (hg : 1 ≤ g) (hL : L ≤ 1000) (hp : pl ≤ 1000) : SM 52 [.ptr 0 0] [stB A L t g a z u pl nx] [.ptr 0 0] (Z ((L : Int) - (pl : Int))) [stB A L t g a z u pl nx] := by
 have c := sok_ok A L t g a z u pl nx hg
 cases nx
 all_goals
  refine SM_ Tryz.func52 (by kernel_rfl) rfl (Nat.le_of_ble_eq_true rfl) (Nat.le_refl 1) ?_
  show avc Tryz.prog SP _ _ _ _ _ _
  dsimp only [avc, startS, Array.toList, Tryz.f52]
  repeat' ((try conv => whnf) <;> first | refine Av.Va ?_ | refine ⟨_, _, _, c, ?_⟩ | refine ⟨[], [0,1,3,7,15,0,32,96,224,511,1023], Av.len_ok rfl (by kernel_rfl), ?_⟩ | exact True.intro | refine Av.Vb ?_ | exact ⟨rfl, rfl, rfl⟩ | exact ⟨rfl, rfl⟩ | (refine Av.Vc ?_ ?_ <;> intro hBr <;> first | (exfalso; omega) | (exfalso; contradiction) | (exfalso; exact hBr rfl) | skip) | refine Av.Vd ?_ | exact rfl)
theorem sapply_no (hg : 1 ≤ g) : SM 50 [.ptr 0 0] [stB A L t g a z u pl none] [.ptr 0 0] (Z 9) [stB A L t g a z u pl none] := by
 have c := sok_ok A L t g a z u pl none hg
 refine SM_ Tryz.func50 (by kernel_rfl) rfl (Nat.le_of_ble_eq_true rfl) (Nat.le_refl 1) ?_
 show avc Tryz.prog SP _ _ _ _ _ _
 dsimp only [avc, startS, Array.toList, Tryz.f50]
 repeat' ((try conv => whnf) <;> first | refine Av.Va ?_ | refine ⟨_, _, _, c, ?_⟩ | exact True.intro | refine Av.Vb ?_ | exact ⟨rfl, rfl, rfl⟩ | exact ⟨rfl, rfl⟩ | (refine Av.Vc ?_ ?_ <;> intro hBr <;> first | (exfalso; omega) | (exfalso; contradiction) | (exfalso; exact hBr rfl) | skip) | refine Av.Vd ?_ | exact rfl)
theorem splan1_ok (t' : Tr) : SP 111 [.vp [ndA t'] 0] (trA t') := by
 refine S_ Tryz.func111 (by kernel_rfl) rfl (Nat.le_of_ble_eq_true rfl) ?_
 show avc Tryz.prog SP _ _ _ _ _ _
 dsimp only [avc, startS, Array.toList, Tryz.f111]
 repeat' ((try conv => whnf) <;> first | refine Av.Va ?_ | exact True.intro | refine Av.Vb ?_ | exact ⟨rfl, rfl, rfl⟩ | exact ⟨rfl, rfl⟩ | (refine Av.Vc ?_ ?_ <;> intro hBr <;> first | (exfalso; omega) | (exfalso; contradiction) | (exfalso; exact hBr rfl) | skip) | refine Av.Vd ?_ | exact rfl)
theorem sapply_ok (hg : 1 ≤ g) (t' : Tr) : SM 50 [.ptr 0 0] [stB A L t g a z u pl (some t')] [.ptr 0 0] (Z 0) [stB A L t' g a z u pl none] := by
 have c := sok_ok A L t g a z u pl (some t') hg
 have c2 := splan1_ok t'
 refine SM_ Tryz.func50 (by kernel_rfl) rfl (Nat.le_of_ble_eq_true rfl) (Nat.le_refl 1) ?_
 show avc Tryz.prog SP _ _ _ _ _ _
 dsimp only [avc, startS, Array.toList, Tryz.f50]
 repeat' ((try conv => whnf) <;> first | refine Av.Va ?_ | refine ⟨_, _, _, c, ?_⟩ | refine ⟨_, c2, ?_⟩ | exact True.intro | refine Av.Vb ?_ | exact ⟨rfl, rfl, rfl⟩ | exact ⟨rfl, rfl⟩ | (refine Av.Vc ?_ ?_ <;> intro hBr <;> first | (exfalso; omega) | (exfalso; contradiction) | (exfalso; exact hBr rfl) | skip) | refine Av.Vd ?_ | exact rfl)
end
theorem snext_ok {g a : Nat} {z u s v : Int} (hg : g ≤ 1099511627776) (ha : a ≤ 1) : SP 143 [rt g a z u, Z s, .ex (.int .u32 v)] (rt ((g : Int) + 1) ((1 - a : Nat) : Int) s v) := by
 have hw : IntKind.u64.wrap ((g : Int) + 1) = (g : Int) + 1 := wrap_u64 (by omega) (by omega)
 by_cases h : a = 0
 ·subst h
  have := next0 (g := (g : Int)) (z := z) (u := u) (s := s) (v := v)
  rw [hw] at this
  exact this
 ·obtain rfl : a = 1 := by omega
  have := next1 (g := (g : Int)) (a := ((1 : Nat) : Int)) (z := z) (u := u) (s := s) (v := v) (by decide)
  rw [hw] at this
  exact this
theorem sanew_ok {A L : Nat} {t : Tr} (hf : Fit A t) (g a z u pl : Nat) (nx : Option Tr) (hg : 1 ≤ g ∧ g < 1099511627776) (ha : a ≤ 1) :
  SM 88 [.ptr 0 0] [stB A L t g a z u pl nx] [.ptr 0 0] (.sl 1 (npc (Shf.encB t.toL) + 3))
   [stB A L t (g + 1) (1 - a) (Shf.encB t.toL).length (sumN (Shf.encB t.toL)) 0 nx, ddB (layD A (Shf.encB t.toL) (g + 1) (1 - a) (Shf.encB t.toL).length (sumN (Shf.encB t.toL))) false] := by
 have c1 := stold_ok hf
 have c2 := snext_ok (g := g) (a := a) (z := (z : Int)) (u := (u : Int)) (s := ((Shf.encB t.toL).length : Int)) (v := (sumN (Shf.encB t.toL) : Int)) (by omega) ha
 have c3 := llay_ok hf.map A L (g + 1) (1 - a) (Shf.encB t.toL).length (sumN (Shf.encB t.toL)) hf.top hf.fit ⟨by omega, by omega⟩ (by omega) hf.encl (sumN_lt _)
 rw [show (g : Int) + 1 = ((g + 1 : Nat) : Int) by omega] at c2
 show SM _ _ _ _ _ [stB A L t (g + 1) (1 - a) (Shf.encB t.toL).length (sumN (Shf.encB t.toL)) 0 nx, ⟨ddC (layD A (Shf.encB t.toL) (g + 1) (1 - a) (Shf.encB t.toL).length (sumN (Shf.encB t.toL))), some 174, false, true⟩]
 have c3 : SM 99 [.ptr 0 0, shA A L, trA t, rt ((g + 1 : Nat) : Int) ((1 - a : Nat) : Int) ((Shf.encB t.toL).length : Int) ((sumN (Shf.encB t.toL) : Nat) : Int)] [ls0] [.ptr 0 0] (.tup []) [ls1 (npc (Shf.encB t.toL) + 3), ⟨ddC (layD A (Shf.encB t.toL) (g + 1) (1 - a) (Shf.encB t.toL).length (sumN (Shf.encB t.toL))), some 174, false, true⟩] := c3
 clear hf
 generalize layD A (Shf.encB t.toL) (g + 1) (1 - a) (Shf.encB t.toL).length (sumN (Shf.encB t.toL)) = D at *
 generalize npc (Shf.encB t.toL) + 3 = n at *
 generalize (Shf.encB t.toL).length = z1 at *
 generalize sumN (Shf.encB t.toL) = u1 at *
 generalize g + 1 = g1 at *
 generalize 1 - a = a1 at *
 cases nx
 all_goals
  refine SM_ Tryz.func88 (by kernel_rfl) rfl (Nat.le_of_ble_eq_true rfl) (Nat.le_refl 1) ?_
  show avc Tryz.prog SP _ _ _ _ _ _
  dsimp only [avc, startS, Array.toList, Tryz.f88]
  repeat' ((try conv => whnf) <;> first | refine Av.Va ?_ | refine ⟨_, c1, ?_⟩ | refine ⟨_, c2, ?_⟩ | refine ⟨_, _, _, c3, ?_⟩ | refine ⟨[], [0,1,3,7,0,16,48,112,0,256,768,1792,4095], Av.len_ok rfl (by kernel_rfl), ?_⟩ | exact True.intro | refine Av.Vb ?_ | exact ⟨rfl, rfl, rfl⟩ | exact ⟨rfl, rfl⟩ | (refine Av.Vc ?_ ?_ <;> intro hBr <;> first | (exfalso; omega) | (exfalso; contradiction) | (exfalso; exact hBr rfl) | skip) | refine Av.Vd ?_ | exact rfl)
end Go.Proofs.YtbaedepmogkkeaaGreat.Av
namespace Go.Proofs.YtbaedepmogkkeaaGreat.Av
set_option linter.unusedVariables false
set_option linter.unusedSimpArgs false
open Go Go.RowKit Tre
end Go.Proofs.YtbaedepmogkkeaaGreat.Av
