/- What the claim stands on, Su36: contracts of functions and plain facts. No conditions. -/
import Derived.Test.YtbaedepmogkkeaaGreatSu35
import Derived.Test.YtbaedepmogkkeaaGreatSu33
import Derived.Test.YtbaedepmogkkeaaGreatSu27
import Derived.Test.YtbaedepmogkkeaaGreatSu20
namespace Go.Proofs.YtbaedepmogkkeaaGreat.Av
open Go Go.RowKit Tre
set_option linter.unusedVariables false
set_option linter.unusedSimpArgs false
set_option maxRecDepth 100000
set_option maxHeartbeats 4000000
theorem rright_ok (A L : Int) : SP 30 [shI A L] (B (decide (OkSh A L))) := by
 by_cases h : OkSh A L
 ·rw [decide_eq_true h]
  obtain ⟨h1, h2, h3, h4⟩ := h
  have e : decide (L ≤ 256) = true := decide_eq_true h4
  refine S_ Tryz.func30 (by kernel_rfl) rfl (Nat.le_of_ble_eq_true rfl) ?_
  show avc Tryz.prog SP _ _ _ _ _ _
  dsimp only [avc, startS, Array.toList, Tryz.f30]
  repeat' ((try conv => whnf) <;> first | refine Av.Va ?_ | (exact congrArg (fun b => AV.ex (Value.bool b)) e) | exact True.intro | refine Av.Vb ?_ | exact ⟨rfl, rfl, rfl⟩ | exact ⟨rfl, rfl⟩ | (refine Av.Vc ?_ ?_ <;> intro hBr <;> first | (exfalso; omega) | (exfalso; contradiction) | (exfalso; exact hBr rfl) | skip) | refine Av.Vd ?_ | exact rfl)
 ·rw [decide_eq_false h]
  have h : A < 1 ∨ 1 ≤ A ∧ (512 < A ∨ A ≤ 512 ∧ (L < 32 ∨ 32 ≤ L ∧ ¬ L ≤ 256)) := by unfold OkSh at h; omega
  rcases h with h | ⟨h, h2 | ⟨h2, h3 | ⟨h3, h4⟩⟩⟩
  ·refine S_ Tryz.func30 (by kernel_rfl) rfl (Nat.le_of_ble_eq_true rfl) ?_ -- G
   repeat' ((try conv => whnf) <;> first | refine Av.Va ?_ | exact True.intro | refine Av.Vb ?_ | exact ⟨rfl, rfl, rfl⟩ | exact ⟨rfl, rfl⟩ | (refine Av.Vc ?_ ?_ <;> intro hBr <;> first | (exfalso; omega) | (exfalso; contradiction) | (exfalso; exact hBr rfl) | skip) | refine Av.Vd ?_ | exact rfl)
  ·refine S_ Tryz.func30 (by kernel_rfl) rfl (Nat.le_of_ble_eq_true rfl) ?_ -- G
   repeat' ((try conv => whnf) <;> first | refine Av.Va ?_ | exact True.intro | refine Av.Vb ?_ | exact ⟨rfl, rfl, rfl⟩ | exact ⟨rfl, rfl⟩ | (refine Av.Vc ?_ ?_ <;> intro hBr <;> first | (exfalso; omega) | (exfalso; contradiction) | (exfalso; exact hBr rfl) | skip) | refine Av.Vd ?_ | exact rfl)
  ·refine S_ Tryz.func30 (by kernel_rfl) rfl (Nat.le_of_ble_eq_true rfl) ?_ -- G
   repeat' ((try conv => whnf) <;> first | refine Av.Va ?_ | exact True.intro | refine Av.Vb ?_ | exact ⟨rfl, rfl, rfl⟩ | exact ⟨rfl, rfl⟩ | (refine Av.Vc ?_ ?_ <;> intro hBr <;> first | (exfalso; omega) | (exfalso; contradiction) | (exfalso; exact hBr rfl) | skip) | refine Av.Vd ?_ | exact rfl)
  ·have e : decide (L ≤ 256) = false := decide_eq_false h4
   refine S_ Tryz.func30 (by kernel_rfl) rfl (Nat.le_of_ble_eq_true rfl) ?_
   show avc Tryz.prog SP _ _ _ _ _ _
   dsimp only [avc, startS, Array.toList, Tryz.f30]
   repeat' ((try conv => whnf) <;> first | refine Av.Va ?_ | (exact congrArg (fun b => AV.ex (Value.bool b)) e) | exact True.intro | refine Av.Vb ?_ | exact ⟨rfl, rfl, rfl⟩ | exact ⟨rfl, rfl⟩ | (refine Av.Vc ?_ ?_ <;> intro hBr <;> first | (exfalso; omega) | (exfalso; contradiction) | (exfalso; exact hBr rfl) | skip) | refine Av.Vd ?_ | exact rfl)
theorem rsectors_ok (A L : Int) : SP 32 [shI A L] (Z (sectN A L)) := by
 have c := rright_ok A L
 unfold sectN
 by_cases h : OkSh A L
 ·rw [if_pos h]
  rw [decide_eq_true h] at c
  obtain ⟨h1, h2, h3, h4⟩ := h
  refine S_ Tryz.func32 (by kernel_rfl) rfl (Nat.le_of_ble_eq_true rfl) ?_
  show avc Tryz.prog SP _ _ _ _ _ _
  dsimp only [avc, startS, Array.toList, Tryz.f32]
  repeat' ((try conv => whnf) <;> first | refine Av.Va ?_ | refine ⟨_, c, ?_⟩ | exact True.intro | refine Av.Vb ?_ | exact ⟨rfl, rfl, rfl⟩ | exact ⟨rfl, rfl⟩ | (refine Av.Vc ?_ ?_ <;> intro hBr <;> first | (exfalso; omega) | (exfalso; contradiction) | (exfalso; exact hBr rfl) | skip) | refine Av.Vd ?_ | exact rfl)
 ·rw [if_neg h]
  rw [decide_eq_false h] at c
  refine S_ Tryz.func32 (by kernel_rfl) rfl (Nat.le_of_ble_eq_true rfl) ?_
  show avc Tryz.prog SP _ _ _ _ _ _
  dsimp only [avc, startS, Array.toList, Tryz.f32]
  repeat' ((try conv => whnf) <;> first | refine Av.Va ?_ | refine ⟨_, c, ?_⟩ | exact True.intro | refine Av.Vb ?_ | exact ⟨rfl, rfl, rfl⟩ | exact ⟨rfl, rfl⟩ | (refine Av.Vc ?_ ?_ <;> intro hBr <;> first | (exfalso; omega) | (exfalso; contradiction) | (exfalso; exact hBr rfl) | skip) | refine Av.Vd ?_ | exact rfl)
theorem rarea_ok {A L a : Nat} (ha : a ≤ 2) (hA : A ≤ 100000) : SP 100 [shA A L, Z a] (Z (areaA A a)) := by
 have h : areaA A a = 2 + a * A := rfl
 have h3 : (a : Int) * (A : Int) = ((a * A : Nat) : Int) := by rw [Int.natCast_mul]
 have h2 : a * A ≤ 200000 := Nat.le_trans (Nat.mul_le_mul ha hA) (by omega)
 have h4 : inR ((a : Int) * (A : Int)) := by rw [h3]; exact ⟨by omega, by omega⟩
 have h5 : inR (2 + (a : Int) * (A : Int)) := by rw [h3]; exact ⟨by omega, by omega⟩
 have h6 : ((areaA A a : Nat) : Int) = 2 + (a : Int) * (A : Int) := by rw [h, h3]; omega
 rw [h6]
 clear h h2 h3 h6
 refine S_ Tryz.func100 (by kernel_rfl) rfl (Nat.le_of_ble_eq_true rfl) ?_
 show avc Tryz.prog SP _ _ _ _ _ _
 dsimp only [avc, startS, Array.toList, Tryz.f100]
 repeat' ((try conv => whnf) <;> first | refine Av.Va ?_ | (refine And.intro h4 ?_) | (refine And.intro h5 ?_) | exact True.intro | refine Av.Vb ?_ | exact ⟨rfl, rfl, rfl⟩ | exact ⟨rfl, rfl⟩ | (refine Av.Vc ?_ ?_ <;> intro hBr <;> first | (exfalso; omega) | (exfalso; contradiction) | (exfalso; exact hBr rfl) | skip) | refine Av.Vd ?_ | exact rfl)
theorem rlog_ok {A L : Nat} (hA : A ≤ 100000) : SP 114 [shA A L] (Z (areaA A 2)) := by
 have h6 : ((areaA A 2 : Nat) : Int) = 2 + 2 * (A : Int) := by unfold areaA; omega
 rw [h6]
 refine S_ Tryz.func114 (by kernel_rfl) rfl (Nat.le_of_ble_eq_true rfl) ?_
 show avc Tryz.prog SP _ _ _ _ _ _
 dsimp only [avc, startS, Array.toList, Tryz.f114]
 repeat' ((try conv => whnf) <;> first | refine Av.Va ?_ | exact True.intro | refine Av.Vb ?_ | exact ⟨rfl, rfl, rfl⟩ | exact ⟨rfl, rfl⟩ | (refine Av.Vc ?_ ?_ <;> intro hBr <;> first | (exfalso; omega) | (exfalso; contradiction) | (exfalso; exact hBr rfl) | skip) | refine Av.Vd ?_ | exact rfl)
structure FitL (A : Nat) (l : List Pr) : Prop where
 fit : npc (Shf.encB l) ≤ A
 top : A ≤ 512
theorem FitL.bytes {A : Nat} {l : List Pr} (h : FitL A l) : 4 + bytesL l ≤ 24576 := by
 have h1 := h.fit
 have h2 := h.top
 unfold npc at h1
 rw [Shf.encB_len] at h1
 omega
theorem FitL.encl {A : Nat} {l : List Pr} (h : FitL A l) : (Shf.encB l).length ≤ 24576 := by rw [Shf.encB_len]; exact h.bytes
theorem short_of {l : List Pr} (h : bytesL l ≤ 65535) : Shf.Short l := fun x hx => by have := key_le hx; omega
theorem FitL.short {A : Nat} {l : List Pr} (h : FitL A l) : Shf.Short l := short_of (by have := h.bytes; omega)
theorem FitL.len {A : Nat} {l : List Pr} (h : FitL A l) : l.length ≤ 6144 := by have := h.bytes; have := bytesL_ge l; omega
theorem Fit.list {A : Nat} {t : Tr} (h : Fit A t) : FitL A t.toL := ⟨h.fit, h.top⟩
theorem rroot_gen (l : List Pr) (hl : l.length ≤ 1000000) (hs : Shf.Short l) (hb : (Shf.encB l).length ≤ 9223372036854775807) (g a : Int) : SP 102 [.vs l.length (prC l), U g, Z a] (rt g a (Shf.encB l).length (sumN (Shf.encB l))) := by
 have c1 := renc_ok l hl hs
 have c2 := rcrcsum_ok (Shf.encB l) hb
 have hz := bs_size (Shf.encB l)
 show SP _ _ (rt g a (Shf.encB l).length ((Crc.sum (Shf.encB l)).toNat))
 rw [← hz]
 clear hb
 generalize (Crc.sum (Shf.encB l)).toNat = u at *
 generalize Shf.encB l = X at *
 refine S_ Tryz.func102 (by kernel_rfl) rfl (Nat.le_of_ble_eq_true rfl) ?_
 show avc Tryz.prog SP _ _ _ _ _ _
 dsimp only [avc, startS, Array.toList, Tryz.f102]
 repeat' ((try conv => whnf) <;> first | refine Av.Va ?_ | refine ⟨_, c1, ?_⟩ | refine ⟨_, c2, ?_⟩ | exact True.intro | refine Av.Vb ?_ | exact ⟨rfl, rfl, rfl⟩ | exact ⟨rfl, rfl⟩ | (refine Av.Vc ?_ ?_ <;> intro hBr <;> first | (exfalso; omega) | (exfalso; contradiction) | (exfalso; exact hBr rfl) | skip) | refine Av.Vd ?_ | exact rfl)
theorem rfits18_ok {A L : Nat} {l : List Pr} (hl : l.length ≤ 1000000) (hb : bytesL l ≤ 1000000000000) : SP 106 [.vs l.length (prC l), shA A L] (B (decide (npc (Shf.encB l) ≤ A))) := by
 have c1 := rsize_ok l hl hb
 have c2 := rcount_ok (4 + (bytesL l : Int)) (by omega)
 have e : 4 + (bytesL l : Int) = ((Shf.encB l).length : Int) := by rw [Shf.encB_len]; omega
 rw [e, cnt_npc] at c2
 rw [e] at c1
 generalize npc (Shf.encB l) = n at *
 have e2 : decide ((n : Int) ≤ (A : Int)) = decide (n ≤ A) := decide_eq_decide.mpr (by omega)
 rw [← e2]
 clear e e2 hb
 refine S_ Tryz.func106 (by kernel_rfl) rfl (Nat.le_of_ble_eq_true rfl) ?_
 show avc Tryz.prog SP _ _ _ _ _ _
 dsimp only [avc, startS, Array.toList, Tryz.f106]
 repeat' ((try conv => whnf) <;> first | refine Av.Va ?_ | refine ⟨_, c1, ?_⟩ | refine ⟨_, c2, ?_⟩ | refine ⟨[], [0,1,3,0,8,31,63], Av.len_ok rfl (by kernel_rfl), ?_⟩ | exact True.intro | refine Av.Vb ?_ | exact ⟨rfl, rfl, rfl⟩ | exact ⟨rfl, rfl⟩ | (refine Av.Vc ?_ ?_ <;> intro hBr <;> first | (exfalso; omega) | (exfalso; contradiction) | (exfalso; exact hBr rfl) | skip) | refine Av.Vd ?_ | exact rfl)
abbrev stA (A L : Nat) (l : List Pr) (g a pl : Int) : AV := .agg [Z A, Z L, .vs l.length (prC l), U g, Z a, Z pl]
theorem room_rd {k : Nat} (hk : k ≤ 1000000) : room k (bytesT Tryz.prog 173) := by
 rw [show bytesT Tryz.prog 173 = 32 by kernel_rfl]; unfold room; omega
theorem hsRD : sizeT Tryz.prog 173 = 3 := by kernel_rfl
theorem one_rd (b : Bool) (i : Int) (s : List UInt8) : ([B b, Z i, T s] : List AV).length = 1 * sizeT Tryz.prog 173 ∧ ∀ u ∈ ([B b, Z i, T s] : List AV), one1 u = true := by
 rw [hsRD]; exact one_d b i s |>.imp (fun h => by rw [hsD] at h; exact h) id
theorem one_rd3 (i : Int) (s : List UInt8) : ([B true, Z 0, T [], B false, Z i, T s, B true, Z 0, T []] : List AV).length = 3 * sizeT Tryz.prog 173 ∧ ∀ u ∈ ([B true, Z 0, T [], B false, Z i, T s, B true, Z 0, T []] : List AV), one1 u = true := by
 rw [hsRD]
 refine ⟨rfl, fun u hu => ?_⟩
 simp only [List.mem_cons, List.not_mem_nil, or_false] at hu
 rcases hu with rfl | rfl | rfl | rfl | rfl | rfl | rfl | rfl | rfl <;> rfl
theorem ranew_ok {A : Nat} {l : List Pr} (hf : FitL A l) (L g a : Nat) (pl : Int) (hg : 1 ≤ g ∧ g < 1099511627776) (ha : a ≤ 1) :
  SP 95 [stA A L l g a pl] (.tup [.own 173 (npc (Shf.encB l) + 3) (ddC (layD A (Shf.encB l) (g + 1) (1 - a) (Shf.encB l).length (sumN (Shf.encB l)))), stA A L l ((g + 1 : Nat) : Int) (1 - (a : Int)) 0]) := by
 have hl := hf.len
 have hle := hf.encl
 have hN := hf.fit
 have hA := hf.top
 have e1 : (1 : Int) - (a : Int) = ((1 - a : Nat) : Int) := by omega
 have c1 := rroot_gen l (by omega) hf.short (by omega) ((g + 1 : Nat) : Int) (1 - (a : Int))
 have c2 := rslay_yes l (by omega) hf.short (g + 1) A (by omega) (by omega) ⟨by omega, by omega⟩ (by omega)
 have c3 := rarea_ok (A := A) (L := L) (a := 1 - a) (by omega) (by omega)
 have c4 := rrseal_ok (g := g + 1) (a := 1 - a) (z := (Shf.encB l).length) (u := sumN (Shf.encB l)) ⟨by omega, by omega, by omega, by omega, by omega⟩ (sumN_lt _)
 rw [← e1] at c3 c4
 have hw : IntKind.u64.wrap ((g : Int) + 1) = ((g + 1 : Nat) : Int) := by rw [wrap_u64 (by omega) (by omega)]; omega
 have hpos : 0 < npc (Shf.encB l) := by unfold npc; rw [Shf.encB_len]; omega
 have hfin : ddC (layD A (Shf.encB l) (g + 1) (1 - a) (Shf.encB l).length (sumN (Shf.encB l))) = ddC (shD A (1 - a) (g + 1) (Shf.encB l) (npc (Shf.encB l))) ++ [B true, Z 0, T [], B false, Z (((g + 1 : Nat) : Int) % 2), T (rootS (g + 1) (1 - a) (Shf.encB l).length (sumN (Shf.encB l))), B true, Z 0, T []] := by
  unfold layD endD; rw [ddC_app, show (((g + 1 : Nat) : Int) % 2) = (((g + 1) % 2 : Nat) : Int) by omega]; rfl
 rw [hfin]
 have hF : areaA A (1 - a) ≤ 1000 := by
  have : (1 - a) * A ≤ 1 * A := Nat.mul_le_mul (by omega) (Nat.le_refl _)
  unfold areaA; omega
 clear hfin hle
 generalize rootS (g + 1) (1 - a) (Shf.encB l).length (sumN (Shf.encB l)) = R at *
 generalize (Shf.encB l).length = z at *
 generalize sumN (Shf.encB l) = u at *
 generalize Shf.encB l = X at *
 obtain ⟨N, hNN⟩ : ∃ N, N = npc X := ⟨_, rfl⟩
 rw [← hNN] at hN hpos c2 ⊢
 obtain ⟨C, hC⟩ : ∃ C : Nat → List AV, C = fun i => ddC (shD A (1 - a) (g + 1) X i) := ⟨_, rfl⟩
 have hCl : ∀ i, (C i).length = i * 3 := fun i => by rw [hC]; simp only [ddC_len, shD_len]
 have hCs : ∀ i : Nat, C i ++ [B false, Z (((areaA A (1 - a) : Nat) : Int) + (i : Int)), T (sec (mkG (g + 1) i) (pc X i))] = C (i + 1) := fun i => by
  rw [hC]; simp only
  rw [shD_succ, ddC_app, show ((areaA A (1 - a) : Nat) : Int) + (i : Int) = ((areaA A (1 - a) + i : Nat) : Int) by omega]; rfl
 have hC0 : C 0 = [] := by rw [hC]; rfl
 have hCe : ddC (shD A (1 - a) (g + 1) X N) = C N := by rw [hC]
 rw [hCe]
 have hcell : ∀ i, i < N → (secs (g + 1) X N)[i]? = some (T (sec (mkG (g + 1) i) (pc X i))) := fun i hi => by simp [secs, hi]
 obtain ⟨S, hS⟩ : ∃ S : Nat → Key, S = fun i => sec (mkG (g + 1) i) (pc X i) := ⟨_, rfl⟩
 have hcell2 : ∀ i, i < N → (secs (g + 1) X N)[i]? = some (T (S i)) := by rw [hS]; exact hcell
 have hCs2 : ∀ i : Nat, C i ++ [B false, Z (((areaA A (1 - a) : Nat) : Int) + (i : Int)), T (S i)] = C (i + 1) := by rw [hS]; exact hCs
 clear hC hCe hS hcell hCs hNN hf
 generalize areaA A (1 - a) = F at *
 generalize secs (g + 1) X N = LC at *
 have hg2 : 0 ≤ ((g + 1 : Nat) : Int) ∧ ((g + 1 : Nat) : Int) < 18446744073709551616 := by omega
 generalize g + 1 = g1 at *
 have hs1 : sizeT Tryz.prog 9 = 1 := by kernel_rfl
 refine S_ Tryz.func95 (by kernel_rfl) rfl (Nat.le_of_ble_eq_true rfl) ?_
 show avc Tryz.prog SP _ _ _ _ _ _
 dsimp only [avc, startS, Array.toList, Tryz.f95]
 repeat' ((try conv => whnf) <;> first | refine Av.Va ?_ | refine ⟨_, c1, ?_⟩ | refine ⟨_, c2, ?_⟩ | (refine ⟨_, hw, ?_⟩) | refine ⟨[], [0,0,2,0,8,30,0,126,0,0,768,1792,4094,8190,16383,32767], Av.len_ok rfl (by kernel_rfl), ?_⟩ | refine ⟨[], [0,0,2,0,8,0,32,0,128,510,1,2047], Av.len_ok rfl (by kernel_rfl), ?_⟩ | exact True.intro | refine Av.Vb ?_ | exact ⟨rfl, rfl, rfl⟩ | exact ⟨rfl, rfl⟩ | (refine Av.Vc ?_ ?_ <;> intro hBr <;> first | (exfalso; omega) | (exfalso; contradiction) | (exfalso; exact hBr rfl) | skip) | refine Av.Vd ?_ | exact rfl)
 refine ⟨[8, 6, 5, 1, 3, 4], [(5, some 173)], fun vs bl => ∃ (i : Nat) (K : List AV), i ≤ N ∧ K = C i ∧ (vs = [Z i, .sl 0 N, .sl 1 i, .ptr 2 0, .ptr 3 0, .ptr 4 0] ∧ bl = [⟨LC, some 9, true, true⟩, ⟨K, some 173, false, true⟩, ⟨[Z A, Z L, .vs l.length (prC l), U g, Z a, Z pl], none, false, true⟩, ⟨[Z 0, Z 0, nilA, U 0, Z 0, Z 0], none, false, true⟩, ⟨[U g1, Z (1 - (a : Int)), Z z, U32 u], none, false, true⟩]), muI N, ?_, ?_⟩
 ·exact ⟨0, _, by omega, hC0.symm, rfl, rfl⟩
 clear c1 c2 hC0
 rintro vs bl ⟨i, K, hi, hK, rfl, rfl⟩
 have hKl : K.length = i * sizeT Tryz.prog 173 := by rw [hK, hCl, hsRD]
 by_cases hik : i < N
 ·have hat : LC[mulS (i : Int).toNat (sizeT Tryz.prog 9)]? = some (T (S i)) := by rw [hs1, mulS_eq, Nat.mul_one, Int.toNat_natCast]; exact hcell2 i hik
  have hdec : muI N [Z ((i : Int) + 1)] [] < muI N [Z i] [] := by show N - ((i : Int) + 1).toNat < N - (i : Int).toNat; omega
  have hst := hCs2 i
  rw [← hK] at hst
  have ho := one_rd false ((F : Int) + (i : Int)) (S i)
  generalize S i = s at *
  clear hcell2 hCs2 hCl c4 hK
  repeat' ((try conv => whnf) <;> first | refine Av.Va ?_ | refine ⟨_, c3, ?_⟩ | (refine ⟨_, hat, ?_⟩) | (refine ⟨true, ?_⟩) | (refine And.intro ⟨room_rd (by omega), hKl, ho⟩ ?_) | refine ⟨[], [0,0,2,0,8,30,0,126,0,0,768,1792,4094,8190,16383,32767], Av.len_ok rfl (by kernel_rfl), ?_⟩ | refine ⟨[], [0,0,2,0,8,0,32,0,128,510,1,2047], Av.len_ok rfl (by kernel_rfl), ?_⟩ | exact True.intro | refine Av.Vb ?_ | exact ⟨rfl, rfl, rfl⟩ | exact ⟨rfl, rfl⟩ | (refine Av.Vc ?_ ?_ <;> intro hBr <;> first | (exfalso; omega) | (exfalso; contradiction) | (exfalso; exact hBr rfl) | skip) | refine Av.Vd ?_ | exact rfl)
  exact ⟨⟨i + 1, _, by omega, hst, rfl, rfl⟩, hdec⟩
 ·obtain rfl : i = N := by omega
  have ho := one_rd3 ((g1 : Int) % 2) R
  rw [← hK]
  clear hcell2 hCs2 hCl hK c3
  repeat' ((try conv => whnf) <;> first | refine Av.Va ?_ | refine ⟨_, c4, ?_⟩ | (refine ⟨true, ?_⟩) | (refine And.intro ⟨room_rd (by omega), hKl, ho⟩ ?_) | refine ⟨[], [0,0,2,0,8,30,0,126,0,0,768,1792,4094,8190,16383,32767], Av.len_ok rfl (by kernel_rfl), ?_⟩ | refine ⟨[], [0,0,2,0,8,0,32,0,128,510,1,2047], Av.len_ok rfl (by kernel_rfl), ?_⟩ | exact True.intro | refine Av.Vb ?_ | exact ⟨rfl, rfl, rfl⟩ | exact ⟨rfl, rfl⟩ | (refine Av.Vc ?_ ?_ <;> intro hBr <;> first | (exfalso; omega) | (exfalso; contradiction) | (exfalso; exact hBr rfl) | skip) | refine Av.Vd ?_ | exact rfl)
theorem rd_fit {X : List Key} {g : Nat} {z : Int} (hX : X.length ≤ 512) (h : (rd X g z).2 = 0) : FitL X.length (rd X g z).1 ∧ Srt (rd X g z).1 := by
 unfold rd at h ⊢
 split at h
 ·cases h
 ·rename_i h1
  rw [if_neg h1]
  split at h
  ·cases h
  ·rename_i h2
   rw [if_neg h2]
   split at h
   ·rename_i h3
    rw [if_pos h3]
    have hd : Shf.dec (glu (payC (X.take (cntP z).toNat)) z).1 = ((Shf.dec (glu (payC (X.take (cntP z).toNat)) z).1).1, 0) := by rw [← h]
    obtain ⟨e1, _, e3, _⟩ := Shf.enc_dec hd
    refine ⟨⟨?_, hX⟩, e3⟩
    have g1 := glu_len (payC (X.take (cntP z).toNat)) z
    have g2 := payC_flat (X.take (cntP z).toNat)
    rw [List.length_take] at g2
    unfold npc
    rw [e1]
    omega
   ·cases h
def replayL (A : Nat) : List Pr → List Key → List Pr
 | l, [] => l
 | l, x :: xs => if (decOps x).2 ≠ 0 then l else if npc (Shf.encB (applyL (decOps x).1 l)) ≤ A then replayL A (applyL (decOps x).1 l) xs else l
theorem replay_toL {A : Nat} : ∀ (xs : List Key) {t : Tr}, Fit A t → (replayT A t xs).toL = replayL A t.toL xs
 | [], t, h => rfl
 | x :: xs, t, h => by
  unfold replayT replayL
  by_cases h0 : (decOps x).2 ≠ 0
  ·rw [if_pos h0, if_pos h0]
  ·rw [if_neg h0, if_neg h0]
   by_cases h1 : npc (Shf.encB (applyL (decOps x).1 t.toL)) ≤ A
   ·rw [if_pos h1, if_pos h1, replay_toL xs (h.applied h1), (h.apply _).2]
   ·rw [if_neg h1, if_neg h1]
theorem replayL_step {A : Nat} {l : List Pr} {xs : List Key} {i : Nat} (h : i < xs.length) : replayL A l (xs.drop i) = if (decOps xs[i]).2 ≠ 0 then l else if npc (Shf.encB (applyL (decOps xs[i]).1 l)) ≤ A then replayL A (applyL (decOps xs[i]).1 l) (xs.drop (i + 1)) else l := by
 rw [List.drop_eq_getElem_cons h]; rfl
theorem decOps_err {x : Key} (h : (decOps x).2 ≠ 0) : (decOps x).1 = [] := by
 unfold decOps at h ⊢
 split
 ·rfl
 ·rename_i a1
  rw [if_neg a1] at h
  split
  ·rfl
  ·rename_i a2
   rw [if_neg a2] at h
   split
   ·rfl
   ·rename_i a3
    rw [if_neg a3] at h
    split
    ·rfl
    ·rename_i a4
     rw [if_neg a4] at h
     exact absurd rfl h
abbrev stZ : AV := .ex (.agg #[.int .i64 0, .int .i64 0, .slice none 0 0, .int .u64 0, .int .i64 0, .int .i64 0])
section
variable (L : List Key) (A Lg : Nat) (h : OkSh A Lg) (hl : L.length = 2 + 2 * A + Lg)
include h hl
theorem rload_ok {g a z u : Nat} {i : Int} (hp : PickS (L[0]'(by omega)) (L[1]'(by omega)) (some ((g, a, z, u), i))) (l : List Pr) (cr : SP 17 [lsA (areaL L A a), U g, Z z] (.tup [.vs l.length (prC l), Z 0]))
  (hz : (Shf.encB l).length = z) (hu : sumN (Shf.encB l) = u) (hf : FitL A l) (xs : List Key) (k : Int) (cs : SP 146 [lsA (logL L A Lg), U g] (.tup [.own 9 xs.length (xs.map T), Z k])) (hxs : ∀ x ∈ xs, x.length ≤ 1048576) (hxn : xs.length ≤ 1000000)
  (R : AV) (hR : (g = 1099511627776 ∧ R = .tup [stZ, Z 7]) ∨ (g ≠ 1099511627776 ∧ R = .tup [stA A Lg (replayL A l xs) g a 0, Z 0])) : SP 94 [lsA L, shA A Lg] R := by
 have c1 := rright_ok A Lg
 have c3 := rsectors_ok A Lg
 rw [decide_eq_true h] at c1
 have e1 : sectN A Lg = L.length := by unfold sectN; rw [if_pos h]; omega
 rw [e1] at c3
 have c4 := rpick_some hp
 have h0 := secAt (L := L) (i := 0) (by omega)
 have h1 := secAt (L := L) (i := 1) (by omega)
 have hn : L.length ≤ 2000 := by have := h.2.1; have := h.2.2.2; omega
 have hA : A ≤ 512 := by have := h.2.1; omega
 have hok := hp.ok
 have ha : a ≤ 1 := by have := hok.1.nat; omega
 have hle := areaA_le (A := A) ha
 have c5 := rarea_ok (A := A) (L := Lg) (a := a) (by omega) (by omega)
 have hs1 : sizeT Tryz.prog 9 = 1 := by kernel_rfl
 have hcut : (0 : Int) ≤ ((areaA A a : Nat) : Int) ∧ ((areaA A a : Nat) : Int) ≤ ((areaA A a : Nat) : Int) + (A : Int) ∧ ((areaA A a : Nat) : Int) + (A : Int) ≤ (L.length : Int) ∧ L.length * sizeT Tryz.prog 9 ≤ (L.map T).length := by rw [hs1, List.length_map]; omega
 have cr : SP 17 [.vs ((((areaA A a : Nat) : Int) + (A : Int)).toNat - ((areaA A a : Nat) : Int).toNat) (takeL (L.map T) (mulS ((areaA A a : Nat) : Int).toNat (sizeT Tryz.prog 9)) (mulS ((((areaA A a : Nat) : Int) + (A : Int)).toNat - ((areaA A a : Nat) : Int).toNat) (sizeT Tryz.prog 9))), U g, Z z] (.tup [.vs l.length (prC l), Z 0]) := by
  rw [hs1, mulS_eq, mulS_eq, Nat.mul_one, Nat.mul_one, show (((areaA A a : Nat) : Int) + (A : Int)).toNat - ((areaA A a : Nat) : Int).toNat = A by omega, Int.toNat_natCast]
  have hll := areaL_len (L := L) (A := A) (a := a) (by omega)
  show SP _ [.vs A (((L.map T).drop (areaA A a)).take A), _, _] _
  rw [← List.map_drop, ← List.map_take]
  have h2 : SP 17 [.vs (areaL L A a).length ((areaL L A a).map T), U g, Z z] (.tup [.vs l.length (prC l), Z 0]) := cr
  rw [hll] at h2
  exact h2
 have c6 := rroot_gen l (by have := hf.len; omega) hf.short (by have := hf.encl; omega) g a
 have ht : (!(((g : Int) == (g : Int)) && (((a : Int) == (a : Int)) && ((((Shf.encB l).length : Int) == (z : Int)) && (((sumN (Shf.encB l) : Int) == (u : Int)) && true))))) = false := by rw [hz, hu]; simp
 rcases hR with ⟨hg, rfl⟩ | ⟨hg, rfl⟩
 ·have hg : (g : Int) = 1099511627776 := by omega
  generalize L[0]'(by omega) = s0 at *
  generalize L[1]'(by omega) = s1 at *
  clear e1 hok hf hz hu cs
  clear h hp
  generalize areaA A a = F at *
  generalize (Shf.encB l).length = z1 at *
  generalize sumN (Shf.encB l) = u1 at *
  refine S_ Tryz.func94 (by kernel_rfl) rfl (Nat.le_of_ble_eq_true rfl) ?_
  show avc Tryz.prog SP _ _ _ _ _ _
  dsimp only [avc, startS, Array.toList, Tryz.f94]
  repeat' ((try conv => whnf) <;> first | refine Av.Va ?_ | refine ⟨_, c1, ?_⟩ | refine ⟨_, c3, ?_⟩ | refine ⟨_, c4, ?_⟩ | (refine ⟨_, h0, ?_⟩) | (refine ⟨_, h1, ?_⟩) | refine ⟨_, c5, ?_⟩ | (refine And.intro hcut ?_) | refine ⟨_, cr, ?_⟩ | refine ⟨_, c6, ?_⟩ | (refine br_f ht ?_) | (refine br_fr ht ?_) | refine ⟨[], [0,0,0,0,8,28,63,0,128,0,512,2047,4095,8191,8191,16383,65535], Av.len_ok rfl (by kernel_rfl), ?_⟩ | refine ⟨[], [0,1,3,0,8,24,63,127,255,255,255,0,2559,7167,16383], Av.len_ok rfl (by kernel_rfl), ?_⟩ | refine ⟨[], [0,0,2,7,0,16,63,127,255,255,511,2047], Eq.refl true, ?_⟩ | refine ⟨[], [0,1,3,7,7,23,7,71,255,7,1023,2047], Eq.refl true, ?_⟩ | exact True.intro | refine Av.Vb ?_ | exact ⟨rfl, rfl, rfl⟩ | exact ⟨rfl, rfl⟩ | (refine Av.Vc ?_ ?_ <;> intro hBr <;> first | (exfalso; omega) | (exfalso; contradiction) | (exfalso; exact hBr rfl) | skip) | refine Av.Vd ?_ | exact rfl)
 have hg : ¬ (g : Int) = 1099511627776 := by omega
 have c7 := rlog_ok (A := A) (L := Lg) (by omega)
 have hF2 : areaA A 2 = 2 + 2 * A := rfl
 have hcut2 : (0 : Int) ≤ ((areaA A 2 : Nat) : Int) ∧ ((areaA A 2 : Nat) : Int) ≤ (L.length : Int) ∧ (L.length : Int) ≤ (L.length : Int) ∧ L.length * sizeT Tryz.prog 9 ≤ (L.map T).length := by rw [hs1, List.length_map]; omega
 have cs : SP 146 [.vs ((L.length : Int).toNat - ((areaA A 2 : Nat) : Int).toNat) (takeL (L.map T) (mulS ((areaA A 2 : Nat) : Int).toNat (sizeT Tryz.prog 9)) (mulS ((L.length : Int).toNat - ((areaA A 2 : Nat) : Int).toNat) (sizeT Tryz.prog 9))), U g] (.tup [.own 9 xs.length (xs.map T), Z k]) := by
  rw [hs1, mulS_eq, mulS_eq, Nat.mul_one, Nat.mul_one, show (L.length : Int).toNat - ((areaA A 2 : Nat) : Int).toNat = Lg by omega, Int.toNat_natCast]
  have hll : (logL L A Lg).length = Lg := by unfold logL; rw [List.length_take, List.length_drop]; omega
  show SP _ [.vs Lg (((L.map T).drop (areaA A 2)).take Lg), _] _
  rw [← List.map_drop, ← List.map_take]
  have h2 : SP 146 [.vs (logL L A Lg).length ((logL L A Lg).map T), U g] (.tup [.own 9 xs.length (xs.map T), Z k]) := cs
  rw [hll] at h2
  exact h2
 obtain ⟨Rl, hRl⟩ : ∃ Rl, replayL A l xs = Rl := ⟨_, rfl⟩
 rw [hRl]
 generalize L[0]'(by omega) = s0 at *
 generalize L[1]'(by omega) = s1 at *
 clear e1 hok hz hu
 clear h hp
 generalize areaA A a = F at *
 generalize areaA A 2 = F2 at *
 generalize (Shf.encB l).length = z1 at *
 generalize sumN (Shf.encB l) = u1 at *
 refine S_ Tryz.func94 (by kernel_rfl) rfl (Nat.le_of_ble_eq_true rfl) ?_
 show avc Tryz.prog SP _ _ _ _ _ _
 dsimp only [avc, startS, Array.toList, Tryz.f94]
 repeat' ((try conv => whnf) <;> first | refine Av.Va ?_ | refine ⟨_, c1, ?_⟩ | refine ⟨_, c3, ?_⟩ | refine ⟨_, c4, ?_⟩ | (refine ⟨_, h0, ?_⟩) | (refine ⟨_, h1, ?_⟩) | refine ⟨_, c5, ?_⟩ | (refine And.intro hcut ?_) | refine ⟨_, cr, ?_⟩ | refine ⟨_, c6, ?_⟩ | (refine br_f ht ?_) | (refine br_fr ht ?_) | refine ⟨_, c7, ?_⟩ | (refine And.intro hcut2 ?_) | refine ⟨_, cs, ?_⟩ | refine ⟨[], [0,0,0,0,8,28,63,0,128,0,512,2047,4095,8191,8191,16383,65535], Av.len_ok rfl (by kernel_rfl), ?_⟩ | refine ⟨[], [0,1,3,0,8,24,63,127,255,255,255,0,2559,7167,16383], Av.len_ok rfl (by kernel_rfl), ?_⟩ | refine ⟨[], [0,0,2,7,0,16,63,127,255,255,511,2047], Eq.refl true, ?_⟩ | refine ⟨[], [0,1,3,7,7,23,7,71,255,7,1023,2047], Eq.refl true, ?_⟩ | exact True.intro | refine Av.Vb ?_ | exact ⟨rfl, rfl, rfl⟩ | exact ⟨rfl, rfl⟩ | (refine Av.Vc ?_ ?_ <;> intro hBr <;> first | (exfalso; omega) | (exfalso; contradiction) | (exfalso; exact hBr rfl) | skip) | refine Av.Vd ?_ | exact rfl)
 refine ⟨[15, 12, 14, 3, 4], [], fun vs bl => ∃ (i : Nat) (l2 : List Pr), i ≤ xs.length ∧ FitL A l2 ∧ replayL A l2 (xs.drop i) = Rl ∧ (vs = [Z i, .sl 0 xs.length, .ptr 1 0, .ptr 2 0, .ptr 3 0] ∧ bl = [⟨xs.map T, some 9, true, true⟩, ⟨[Z A, Z Lg, .vs l2.length (prC l2), U g, Z a, Z 0], none, false, true⟩, ⟨[Z A, Z Lg], none, false, true⟩, ⟨[Z 0, Z 0, nilA, U 0, Z 0, Z 0], none, false, true⟩]), muI xs.length, ?_, ?_⟩
 ·exact ⟨0, l, by omega, hf, by rw [List.drop_zero]; exact hRl, rfl, rfl⟩
 clear c1 c3 c4 c5 c6 c7 cr cs hcut hcut2 ht h0 h1 hF2
 rintro vs bl ⟨i, l2, hi, hf2, hR2, rfl, rfl⟩
 by_cases hlt : i < xs.length
 ·have hat := secAt hlt
  have cd := decode13_ok xs[i] (hxs _ (List.getElem_mem hlt))
  have hdec : muI xs.length [Z ((i : Int) + 1)] [] < muI xs.length [Z i] [] := by show xs.length - ((i : Int) + 1).toNat < xs.length - (i : Int).toNat; omega
  rw [replayL_step hlt] at hR2
  have hll := hf2.len
  have hlb := hf2.bytes
  have hpo : ∀ p ∈ l2, p.1.length ≤ 1000000000 ∧ p.2.length ≤ 1000000000 := fun p hp => by have := hf2.short p hp; omega
  clear hRl hxs hf
  generalize xs[i] = x at *
  by_cases hb : (decOps x).2 ≠ 0
  ·rw [if_pos hb] at hR2
   subst hR2
   have hos := decOps_err hb
   rw [hos] at cd
   have ca := papply_ok l2 [] ⟨by simp; omega, hpo⟩ (fun o ho => by cases ho) l2 rfl
   clear hos
   generalize (decOps x).2 = e at *
   repeat' ((try conv => whnf) <;> first | refine Av.Va ?_ | (refine ⟨_, hat, ?_⟩) | refine ⟨_, cd, ?_⟩ | refine ⟨_, ca, ?_⟩ | refine ⟨[], [0,0,0,0,8,28,63,0,128,0,512,2047,4095,8191,8191,16383,65535], Av.len_ok rfl (by kernel_rfl), ?_⟩ | refine ⟨[], [0,1,3,0,8,24,63,127,255,255,255,0,2559,7167,16383], Av.len_ok rfl (by kernel_rfl), ?_⟩ | refine ⟨[], [0,0,2,7,0,16,63,127,255,255,511,2047], Eq.refl true, ?_⟩ | refine ⟨[], [0,1,3,7,7,23,7,71,255,7,1023,2047], Eq.refl true, ?_⟩ | exact True.intro | refine Av.Vb ?_ | exact ⟨rfl, rfl, rfl⟩ | exact ⟨rfl, rfl⟩ | (refine Av.Vc ?_ ?_ <;> intro hBr <;> first | (exfalso; omega) | (exfalso; contradiction) | (exfalso; exact hBr rfl) | skip) | refine Av.Vd ?_ | exact rfl)
  rw [if_neg hb] at hR2
  have hb : (decOps x).2 = 0 := by simpa using hb
  have ho := few_dec hb
  rw [hb] at cd
  have ho1 := ho.1
  have ca := papply_ok l2 (decOps x).1 ⟨by omega, hpo⟩ (fun o h => by have := ho.2 o h; omega) _ rfl
  have hbl := (applyL_len (a := 150) (b := 1000) (decOps x).1 l2 fun o h => ho.2 o h)
  have hm : (4 + 150 + 1000) * (decOps x).1.length ≤ 1154 * 50 := Nat.mul_le_mul_left _ ho1
  have cf := rfits18_ok (A := A) (L := Lg) (l := applyL (decOps x).1 l2) (by omega) (by omega)
  clear hbl hm
  by_cases h2 : npc (Shf.encB (applyL (decOps x).1 l2)) ≤ A
  ·rw [if_pos h2] at hR2
   rw [decide_eq_true h2] at cf
   have hf3 : FitL A (applyL (decOps x).1 l2) := ⟨h2, hA⟩
   clear h2 hb ho
   generalize applyL (decOps x).1 l2 = l3 at *
   generalize (decOps x).1 = os at *
   repeat' ((try conv => whnf) <;> first | refine Av.Va ?_ | (refine ⟨_, hat, ?_⟩) | refine ⟨_, cd, ?_⟩ | refine ⟨_, ca, ?_⟩ | refine ⟨_, cf, ?_⟩ | refine ⟨[], [0,0,0,0,8,28,63,0,128,0,512,2047,4095,8191,8191,16383,65535], Av.len_ok rfl (by kernel_rfl), ?_⟩ | refine ⟨[], [0,1,3,0,8,24,63,127,255,255,255,0,2559,7167,16383], Av.len_ok rfl (by kernel_rfl), ?_⟩ | refine ⟨[], [0,0,2,7,0,16,63,127,255,255,511,2047], Eq.refl true, ?_⟩ | refine ⟨[], [0,1,3,7,7,23,7,71,255,7,1023,2047], Eq.refl true, ?_⟩ | exact True.intro | refine Av.Vb ?_ | exact ⟨rfl, rfl, rfl⟩ | exact ⟨rfl, rfl⟩ | (refine Av.Vc ?_ ?_ <;> intro hBr <;> first | (exfalso; omega) | (exfalso; contradiction) | (exfalso; exact hBr rfl) | skip) | refine Av.Vd ?_ | exact rfl)
   exact ⟨⟨i + 1, l3, by omega, hf3, hR2, rfl, rfl⟩, hdec⟩
  ·rw [if_neg h2] at hR2
   rw [decide_eq_false h2] at cf
   subst hR2
   clear h2 hb ho
   generalize applyL (decOps x).1 l2 = l3 at *
   generalize (decOps x).1 = os at *
   repeat' ((try conv => whnf) <;> first | refine Av.Va ?_ | (refine ⟨_, hat, ?_⟩) | refine ⟨_, cd, ?_⟩ | refine ⟨_, ca, ?_⟩ | refine ⟨_, cf, ?_⟩ | refine ⟨[], [0,0,0,0,8,28,63,0,128,0,512,2047,4095,8191,8191,16383,65535], Av.len_ok rfl (by kernel_rfl), ?_⟩ | refine ⟨[], [0,1,3,0,8,24,63,127,255,255,255,0,2559,7167,16383], Av.len_ok rfl (by kernel_rfl), ?_⟩ | refine ⟨[], [0,0,2,7,0,16,63,127,255,255,511,2047], Eq.refl true, ?_⟩ | refine ⟨[], [0,1,3,7,7,23,7,71,255,7,1023,2047], Eq.refl true, ?_⟩ | exact True.intro | refine Av.Vb ?_ | exact ⟨rfl, rfl, rfl⟩ | exact ⟨rfl, rfl⟩ | (refine Av.Vc ?_ ?_ <;> intro hBr <;> first | (exfalso; omega) | (exfalso; contradiction) | (exfalso; exact hBr rfl) | skip) | refine Av.Vd ?_ | exact rfl)
 ·obtain rfl : i = xs.length := by omega
  rw [List.drop_length] at hR2
  obtain rfl : l2 = Rl := hR2
  clear hRl hxs hf hf2
  repeat' ((try conv => whnf) <;> first | refine Av.Va ?_ | refine ⟨[], [0,0,0,0,8,28,63,0,128,0,512,2047,4095,8191,8191,16383,65535], Av.len_ok rfl (by kernel_rfl), ?_⟩ | refine ⟨[], [0,1,3,0,8,24,63,127,255,255,255,0,2559,7167,16383], Av.len_ok rfl (by kernel_rfl), ?_⟩ | refine ⟨[], [0,0,2,7,0,16,63,127,255,255,511,2047], Eq.refl true, ?_⟩ | refine ⟨[], [0,1,3,7,7,23,7,71,255,7,1023,2047], Eq.refl true, ?_⟩ | exact True.intro | refine Av.Vb ?_ | exact ⟨rfl, rfl, rfl⟩ | exact ⟨rfl, rfl⟩ | (refine Av.Vc ?_ ?_ <;> intro hBr <;> first | (exfalso; omega) | (exfalso; contradiction) | (exfalso; exact hBr rfl) | skip) | refine Av.Vd ?_ | exact rfl)
end
theorem rrecover_ok (L : List Key) (A Lg : Nat) (l : List Pr) (hf : FitL A l) (g a : Nat) (hg : 1 ≤ g ∧ g < 1099511627776) (ha : a ≤ 1) (c : SP 94 [lsA L, shA A Lg] (.tup [stA A Lg l g a 0, Z 0])) :
  SP 25 [lsA L, shA A Lg] (.tup [stA A Lg l ((g + 1 : Nat) : Int) (1 - (a : Int)) 0, .own 173 (npc (Shf.encB l) + 3) (ddC (layD A (Shf.encB l) (g + 1) (1 - a) (Shf.encB l).length (sumN (Shf.encB l)))), Z 0]) := by
 have c2 := ranew_ok hf Lg g a 0 hg ha
 generalize ddC (layD A (Shf.encB l) (g + 1) (1 - a) (Shf.encB l).length (sumN (Shf.encB l))) = D at *
 generalize npc (Shf.encB l) + 3 = n at *
 generalize g + 1 = g1 at *
 refine S_ Tryz.func25 (by kernel_rfl) rfl (Nat.le_of_ble_eq_true rfl) ?_
 show avc Tryz.prog SP _ _ _ _ _ _
 dsimp only [avc, startS, Array.toList, Tryz.f25]
 repeat' ((try conv => whnf) <;> first | refine Av.Va ?_ | refine ⟨_, c, ?_⟩ | refine ⟨_, c2, ?_⟩ | exact True.intro | refine Av.Vb ?_ | exact ⟨rfl, rfl, rfl⟩ | exact ⟨rfl, rfl⟩ | (refine Av.Vc ?_ ?_ <;> intro hBr <;> first | (exfalso; omega) | (exfalso; contradiction) | (exfalso; exact hBr rfl) | skip) | refine Av.Vd ?_ | exact rfl)
theorem textO_len {M : List Key} {g : Nat} {a : Int} {t : Key} {k : Nat} (h : textO M g a = some (t, k)) : t.length ≤ 1400 := by
 unfold textO at h
 split at h
 ·cases h
 rename_i p0 hp
 split at h
 ·cases h
 rename_i h0
 split at h
 ·cases h
 injection h with h
 injection h with h1 h2
 rw [← h1, List.length_take]
 have : Quill.tell (p0.take 2) ≤ 1400 := by
  apply Classical.byContradiction
  intro hn
  apply h0
  unfold szT
  rw [if_pos (by omega)]
 omega
theorem scanO_len {M : List Key} {g : Nat} : ∀ (f : Nat) (a : Int), ∀ x ∈ (scanO M g f a).1, x.length ≤ 1400
 | 0, a, x, hx => by simp [scanO] at hx
 | f + 1, a, x, hx => by
  unfold scanO at hx
  split at hx
  ·simp at hx
  ·rename_i t k ht
   rcases List.mem_cons.1 hx with rfl | hx
   ·exact textO_len ht
   ·exact scanO_len f _ x hx
theorem scanO_few {M : List Key} {g : Nat} : ∀ (f : Nat) (a : Int), (scanO M g f a).1.length ≤ f
 | 0, a => by simp [scanO]
 | f + 1, a => by
  unfold scanO
  split
  ·simp
  ·rename_i t k ht
   have := scanO_few (M := M) (g := g) f (a + (k : Int))
   simp only [List.length_cons]; omega
def textsL (L : List Key) (A Lg g : Nat) : List Key := (scanO (logL L A Lg) g ((logL L A Lg).length + 1) 0).1
theorem textsL_ok (L : List Key) (A Lg g : Nat) (hL : Lg ≤ 1000) : (∀ x ∈ textsL L A Lg g, x.length ≤ 1048576) ∧ (textsL L A Lg g).length ≤ 1000000 := by
 have hl : (logL L A Lg).length ≤ Lg := by unfold logL; rw [List.length_take]; omega
 refine ⟨fun x hx => ?_, ?_⟩
 ·have := scanO_len _ _ x hx; omega
 ·have := scanO_few (M := logL L A Lg) (g := g) ((logL L A Lg).length + 1) 0
  unfold textsL; omega
inductive RecS (L : List Key) (A Lg : Nat) : Int → List Pr → Nat → Nat → Prop
 | none (hN : 2 ≤ L.length) : PickS (L[0]'(by omega)) (L[1]'(by omega)) none → RecS L A Lg 6 [] 0 0
 | form (hN : 2 ≤ L.length) {g a z u : Nat} {i : Int} : PickS (L[0]'(by omega)) (L[1]'(by omega)) (some ((g, a, z, u), i)) →
   ((rd (areaL L A a) g z).2 ≠ 0 ∨ (rd (areaL L A a) g z).2 = 0 ∧ ((Shf.encB (rd (areaL L A a) g z).1).length ≠ z ∨ sumN (Shf.encB (rd (areaL L A a) g z).1) ≠ u)) → RecS L A Lg 4 [] 0 0
 | full (hN : 2 ≤ L.length) {a z u : Nat} {i : Int} : PickS (L[0]'(by omega)) (L[1]'(by omega)) (some ((1099511627776, a, z, u), i)) → (rd (areaL L A a) 1099511627776 z).2 = 0 → (Shf.encB (rd (areaL L A a) 1099511627776 z).1).length = z → sumN (Shf.encB (rd (areaL L A a) 1099511627776 z).1) = u → RecS L A Lg 7 [] 0 0
 | ok (hN : 2 ≤ L.length) {g a z u : Nat} {i : Int} : PickS (L[0]'(by omega)) (L[1]'(by omega)) (some ((g, a, z, u), i)) → g ≠ 1099511627776 → (rd (areaL L A a) g z).2 = 0 → (Shf.encB (rd (areaL L A a) g z).1).length = z → sumN (Shf.encB (rd (areaL L A a) g z).1) = u →
   RecS L A Lg 0 (replayL A (rd (areaL L A a) g z).1 (textsL L A Lg g)) g a
section
variable {L : List Key} {A Lg : Nat} (h : OkSh A Lg) (hl : L.length = 2 + 2 * A + Lg)
include h hl
theorem rd_at {g a z u : Nat} (ha : a ≤ 1) (h0 : (rd (areaL L A a) g z).2 = 0) : FitL A (rd (areaL L A a) g z).1 ∧ Srt (rd (areaL L A a) g z).1 := by
 have hA : A ≤ 512 := by have := h.2.1; omega
 have hle := areaA_le (A := A) ha
 have hll := areaL_len (L := L) (A := A) (a := a) (by omega)
 have := rd_fit (X := areaL L A a) (g := g) (z := z) (by omega) h0
 rwa [hll] at this
theorem recS_ok {q : Pd} (hq : q.isSh = false) {P : List Wr} {w : Int} {l : List Pr} {g a : Nat} (hr : RecS L A Lg 0 l g a) :
  (1 ≤ g ∧ g < 1099511627776) ∧ a ≤ 1 ∧ FitL A l ∧ ∃ R : Tr, Fit A R ∧ R.toL = l ∧
  SM 20 [.ptr 0 0, shA A Lg] (dsk q L P w) [.ptr 0 0] (.tup [.ptr 1 0, .sl 2 (npc (Shf.encB l) + 3), Z 0])
   (dskX q L P w (stB A Lg R (g + 1) (1 - a) (Shf.encB l).length (sumN (Shf.encB l)) 0 none) (ddB (layD A (Shf.encB l) (g + 1) (1 - a) (Shf.encB l).length (sumN (Shf.encB l))) false)) ∧
  SP 25 [lsA L, shA A Lg] (.tup [stA A Lg l ((g + 1 : Nat) : Int) (1 - (a : Int)) 0, .own 173 (npc (Shf.encB l) + 3) (ddC (layD A (Shf.encB l) (g + 1) (1 - a) (Shf.encB l).length (sumN (Shf.encB l)))), Z 0]) := by
 have hA0 : 1 ≤ A := by have := h.1; omega
 have hA : A ≤ 512 := by have := h.2.1; omega
 have hLg : Lg ≤ 256 := by have := h.2.2.2; omega
 cases hr with
 | @ok hN _ _ z u i hp h3 h0 h1 h2 =>
  have hok := hp.ok.1.nat
  have ha : a ≤ 1 := by omega
  have hg : 1 ≤ g ∧ g < 1099511627776 := by omega
  have hz : (z : Int) ≤ 9223372036854775807 := by omega
  have hle := areaA_le (A := A) ha
  have hll := areaL_len (L := L) (A := A) (a := a) (by omega)
  have c1 := read_ok (areaL L A a) g z hz (by omega)
  have c2 := rread_ok (areaL L A a) g z hz (by omega)
  obtain ⟨hf, hs⟩ := rd_at h hl (u := u) ha h0
  have hfit : Fit A (ofL (rd (areaL L A a) g z).1) := ⟨(ofL_good _).1, by rw [ofL_toL hs]; exact hf.fit, hA⟩
  have ct := treeO_c (stold_ok hfit)
  rw [ofL_toL hs] at ct
  rw [h0] at c1 c2
  have hlg : (logL L A Lg).length ≤ 1000000 := by unfold logL; rw [List.length_take]; omega
  have cs := tscan_walk (logL L A Lg) g hlg _ rfl
  have cs2 := rscan_walk (logL L A Lg) g hlg _ rfl
  obtain ⟨x1, x2⟩ := textsL_ok L A Lg g (by omega)
  have hV : treeO (rd (areaL L A a) g z).1 = zTr ∨ treeO (rd (areaL L A a) g z).1 = trA (ofL (rd (areaL L A a) g z).1) := by rcases treeO_or (rd (areaL L A a) g z).1 with h | h; exact .inl h.2; exact .inr h
  have cl := load_walk q L P w A Lg hq (by omega) hA0 hA (by omega) hp _ zTr _ hV 0 _ _ c1 (fun _ => ct) _ (.inl ⟨rfl, by rw [h1], by rw [h2], rfl⟩)
  have cp := treeO_2 (replay_ok (L := Lg) hfit (textsL L A Lg g) x1 x2 _ rfl)
  have hRf := replayT_fit (textsL L A Lg g) hfit
  have hRl := replay_toL (textsL L A Lg g) hfit
  rw [ofL_toL hs] at hRl
  have hfl : FitL A (replayL A (rd (areaL L A a) g z).1 (textsL L A Lg g)) := by rw [← hRl]; exact hRf.list
  have m := recover_walk q hq L P w A Lg h hl g a z u hg ha _ _ hV cl (textsL L A Lg g).length ((textsL L A Lg g).map T) _ cs _ hRf cp
  rw [hRl] at m
  exact ⟨hg, ha, hfl, _, hRf, hRl, m, rrecover_ok L A Lg _ hfl g a hg ha (rload_ok L A Lg h hl hp _ c2 h1 h2 hf (textsL L A Lg g) _ cs2 x1 x2 _ (.inr ⟨h3, rfl⟩))⟩
end
end Go.Proofs.YtbaedepmogkkeaaGreat.Av
