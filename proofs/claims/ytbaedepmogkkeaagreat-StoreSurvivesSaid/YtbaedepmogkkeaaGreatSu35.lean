/- What the claim stands on, Su35: contracts of functions and plain facts. No conditions. -/
import Derived.Test.YtbaedepmogkkeaaGreatSu34
import Derived.Test.YtbaedepmogkkeaaGreatSu22
namespace Go.Proofs.YtbaedepmogkkeaaGreat.Av
open Go Go.RowKit Tre
set_option linter.unusedVariables false
set_option linter.unusedSimpArgs false
set_option maxRecDepth 100000
set_option maxHeartbeats 4000000
def sectN (A L : Int) : Int := if OkSh A L then 2 + 2 * A + L else 0
theorem ssectors_ok (A L : Int) : SP 31 [shI A L] (Z (sectN A L)) := by
 have c := right_ok A L
 unfold sectN
 by_cases h : OkSh A L
 ·rw [if_pos h]
  rw [decide_eq_true h] at c
  obtain ⟨h1, h2, h3, h4⟩ := h
  obtain ⟨A, rfl⟩ : ∃ k : Nat, A = k := ⟨A.toNat, by omega⟩
  obtain ⟨L, rfl⟩ : ∃ k : Nat, L = k := ⟨L.toNat, by omega⟩
  have c2 := log_ok (A := A) (L := L) (by omega)
  have e : ((areaA A 2 : Nat) : Int) = 2 + 2 * (A : Int) := by unfold areaA; omega
  rw [e] at c2
  refine S_ Tryz.func31 (by kernel_rfl) rfl (Nat.le_of_ble_eq_true rfl) ?_
  show avc Tryz.prog SP _ _ _ _ _ _
  dsimp only [avc, startS, Array.toList, Tryz.f31]
  repeat' ((try conv => whnf) <;> first | refine Av.Va ?_ | refine ⟨_, c, ?_⟩ | refine ⟨_, c2, ?_⟩ | refine ⟨[], [0,1,0,4,15,31], Av.len_ok rfl (by kernel_rfl), ?_⟩ | exact True.intro | refine Av.Vb ?_ | exact ⟨rfl, rfl, rfl⟩ | exact ⟨rfl, rfl⟩ | (refine Av.Vc ?_ ?_ <;> intro hBr <;> first | (exfalso; omega) | (exfalso; contradiction) | (exfalso; exact hBr rfl) | skip) | refine Av.Vd ?_ | exact rfl)
 ·rw [if_neg h]
  rw [decide_eq_false h] at c
  refine S_ Tryz.func31 (by kernel_rfl) rfl (Nat.le_of_ble_eq_true rfl) ?_
  show avc Tryz.prog SP _ _ _ _ _ _
  dsimp only [avc, startS, Array.toList, Tryz.f31]
  repeat' ((try conv => whnf) <;> first | refine Av.Va ?_ | refine ⟨_, c, ?_⟩ | refine ⟨[], [0,1,0,4,15,31], Av.len_ok rfl (by kernel_rfl), ?_⟩ | exact True.intro | refine Av.Vb ?_ | exact ⟨rfl, rfl, rfl⟩ | exact ⟨rfl, rfl⟩ | (refine Av.Vc ?_ ?_ <;> intro hBr <;> first | (exfalso; omega) | (exfalso; contradiction) | (exfalso; exact hBr rfl) | skip) | refine Av.Vd ?_ | exact rfl)
def dskX (q : Pd) (L : List Key) (P : List Wr) (w : Int) (b c : ABlk) : List ABlk := [headN 3 L.length (pdV q 4 P) w, b, c, secB L] ++ pdB q P
section
variable (q : Pd) (hq : q.isSh = false) (L : List Key) (P : List Wr) (w : Int)
include hq
def logL (L : List Key) (A Lg : Nat) : List Key := (L.drop (areaA A 2)).take Lg
theorem recover_walk (A Lg : Nat) (h : OkSh A Lg) (hl : L.length = 2 + 2 * A + Lg) (g a z u : Nat) (hg : 1 ≤ g ∧ g < 1099511627776) (ha : a ≤ 1) (tv : AV) (V : Tr) (htv : tv = zTr ∨ tv = trA V) (cl : SM 83 [.ptr 0 0, shA A Lg] (dsk q L P w) [.ptr 0 0] (.tup [rt g a z u, tv, Z 0]) (dsk q L P w))
  (n : Nat) (C : List AV) (k : Int) (cs : SP 84 [lsA (logL L A Lg), U g] (.tup [.own 9 n C, Z k])) (R : Tr) (hf : Fit A R) (cp : SP 87 [shA A Lg, tv, .vs n C] (trA R)) :
  SM 20 [.ptr 0 0, shA A Lg] (dsk q L P w) [.ptr 0 0] (.tup [.ptr 1 0, .sl 2 (npc (Shf.encB R.toL) + 3), Z 0])
   (dskX q L P w (stB A Lg R (g + 1) (1 - a) (Shf.encB R.toL).length (sumN (Shf.encB R.toL)) 0 none) (ddB (layD A (Shf.encB R.toL) (g + 1) (1 - a) (Shf.encB R.toL).length (sumN (Shf.encB R.toL))) false)) := by
 have c1 := right_ok A Lg
 have c2 := dsize_ok q L P w
 have c3 := ssectors_ok A Lg
 rw [decide_eq_true h] at c1
 have e1 : sectN A Lg = L.length := by unfold sectN; rw [if_pos h]; omega
 rw [e1] at c3
 have hA : A ≤ 512 := by have := h.2.1; omega
 have hLg : Lg ≤ 256 := by have := h.2.2.2; omega
 have hF : areaA A 2 + Lg ≤ L.length := by unfold areaA; omega
 have c4 := log_ok (A := A) (L := Lg) (by omega)
 have c5 := sread_ok q L P w (areaA A 2) Lg hF (by omega)
 have c5 : SM 85 [.ptr 0 0, Z (areaA A 2), Z Lg] (dsk q L P w) [.ptr 0 0] (.sl 1 Lg) (dskR q L P w ⟨(logL L A Lg).map T, some 9, false, true⟩) := c5
 have hll : (logL L A Lg).length = Lg := by unfold logL; rw [List.length_take, List.length_drop]; omega
 have cs : SP 84 [.vs Lg ((logL L A Lg).map T), U g] (.tup [.own 9 n C, Z k]) := by
  have h : SP 84 [.vs (logL L A Lg).length ((logL L A Lg).map T), U g] (.tup [.own 9 n C, Z k]) := cs
  rwa [hll] at h
 have c6 := sanew_ok hf (L := Lg) g a z u 0 none hg ha
 have c6 : SM 88 [.ptr 0 0] [stB A Lg R g a z u 0 none] [.ptr 0 0] (.sl 1 (npc (Shf.encB R.toL) + 3))
   [stB A Lg R (g + 1) (1 - a) (Shf.encB R.toL).length (sumN (Shf.encB R.toL)) 0 none, ⟨ddC (layD A (Shf.encB R.toL) (g + 1) (1 - a) (Shf.encB R.toL).length (sumN (Shf.encB R.toL))), some 174, false, true⟩] := c6
 have hg2 : ¬ (g : Int) = 1099511627776 := by omega
 show SM _ _ _ _ _ (dskX q L P w (stB A Lg R (g + 1) (1 - a) (Shf.encB R.toL).length (sumN (Shf.encB R.toL)) 0 none) ⟨ddC (layD A (Shf.encB R.toL) (g + 1) (1 - a) (Shf.encB R.toL).length (sumN (Shf.encB R.toL))), some 174, false, true⟩)
 clear e1 h hf hll hF
 generalize (logL L A Lg).map T = LC at *
 generalize areaA A 2 = F at *
 generalize ddC (layD A (Shf.encB R.toL) (g + 1) (1 - a) (Shf.encB R.toL).length (sumN (Shf.encB R.toL))) = D at *
 generalize npc (Shf.encB R.toL) + 3 = m at *
 generalize (Shf.encB R.toL).length = z1 at *
 generalize sumN (Shf.encB R.toL) = u1 at *
 generalize g + 1 = g1 at *
 generalize 1 - a = a1 at *
 rcases htv with rfl | rfl
 all_goals
  cases q with
  | sh => exact absurd (show Pd.isSh .sh = false from hq) (by decide)
  | _ =>
   refine SM_ Tryz.func20 (by kernel_rfl) rfl (Nat.le_of_ble_eq_true rfl) (Nat.le_succ 1) ?_
   show avc Tryz.prog SP _ _ _ _ _ _
   dsimp only [avc, startS, Array.toList, Tryz.f20]
   repeat' ((try conv => whnf) <;> first | refine Av.Va ?_ | refine ⟨_, c1, ?_⟩ | refine ⟨_, _, _, c2, ?_⟩ | refine ⟨_, c3, ?_⟩ | refine ⟨_, _, _, cl, ?_⟩ | refine ⟨_, c4, ?_⟩ | refine ⟨_, _, _, c5, ?_⟩ | refine ⟨_, cs, ?_⟩ | refine ⟨_, cp, ?_⟩ | refine ⟨_, _, _, c6, ?_⟩ | refine ⟨[], [0,0,2,0,8,31,0,64,255,511,1023,1023,2047,8191], Av.len_ok rfl (by kernel_rfl), ?_⟩ | refine ⟨[], [0,1,3,7,15,31,15,127,255,511], Av.len_ok rfl (by kernel_rfl), ?_⟩ | refine ⟨[], [0,0,0,0,14,0,63,127,255], Av.len_ok rfl (by kernel_rfl), ?_⟩ | exact True.intro | refine Av.Vb ?_ | exact ⟨rfl, rfl, rfl⟩ | exact ⟨rfl, rfl⟩ | (refine Av.Vc ?_ ?_ <;> intro hBr <;> first | (exfalso; omega) | (exfalso; contradiction) | (exfalso; exact hBr rfl) | skip) | refine Av.Vd ?_ | exact rfl)
end
def lgD (A g pl : Nat) (x : Key) (k : Nat) : List Dd := (List.range k).map fun i => ⟨false, areaA A 2 + pl + i, secT x g pl i⟩
theorem lgD_len (A g pl : Nat) (x : Key) (k : Nat) : (lgD A g pl x k).length = k := by simp [lgD]
theorem lgD_succ (A g pl : Nat) (x : Key) (k : Nat) : lgD A g pl x (k + 1) = lgD A g pl x k ++ [⟨false, areaA A 2 + pl + k, secT x g pl k⟩] := by simp [lgD, List.range_succ]
def syD : List Dd := [⟨true, 0, []⟩]
theorem enc_len {os : List OpP} (h : (encOps os).2 = 0) : (encOps os).1 ≠ [] ∧ (encOps os).1.length ≤ 1400 := by
 obtain ⟨_, h1, h2, _⟩ := dec_enc h
 refine ⟨fun e => ?_, by omega⟩
 rw [e] at h1; simp at h1; omega
theorem fits_enc {A : Nat} {l : List Pr} {os : List OpP} (h : fitsE A l os = 0) : (encOps os).2 = 0 ∧ npc (Shf.encB (applyL os l)) ≤ A := by
 unfold fitsE at h
 split at h
 ·cases h
 ·split at h
  ·rename_i h1; exact absurd h h1
  ·rename_i h1
   split at h
   ·rename_i h2
    exact ⟨by simpa using h1, h2⟩
   ·cases h
section
variable (A L : Nat) (t : Tr) (g a z u pl : Nat)
theorem splan_no (hf : Fit A t) (hg : 1 ≤ g) (os : List OpP) (ho : FewO os) (h : fitsE A t.toL os ≠ 0) : SM 47 [.ptr 0 0, .vs os.length (opC os)] [stB A L t g a z u pl none] [.ptr 0 0] (.tup [nilA, Z (fitsE A t.toL os)]) [stB A L t g a z u pl none] := by
 have c := sok_ok A L t g a z u pl none hg
 have c2 := sfits_ok (L := L) hf g a z u pl none hg os ho
 generalize fitsE A t.toL os = e at *
 refine SM_ Tryz.func47 (by kernel_rfl) rfl (Nat.le_of_ble_eq_true rfl) (Nat.le_succ 1) ?_
 show avc Tryz.prog SP _ _ _ _ _ _
 dsimp only [avc, startS, Array.toList, Tryz.f47]
 repeat' ((try conv => whnf) <;> first | refine Av.Va ?_ | refine ⟨_, _, _, c, ?_⟩ | refine ⟨_, _, _, c2, ?_⟩ | refine ⟨[], [0,0,2,6,14,30,0,64,192,448,0,1024,3072,7168,15360,32767,65535,131071,131071,262143,1048575], Av.len_ok rfl (by kernel_rfl), ?_⟩ | refine ⟨[], [0,1,3,7,15,0,32,96,224,511,0,2047,0,8191], Av.len_ok rfl (by kernel_rfl), ?_⟩ | exact True.intro | refine Av.Vb ?_ | exact ⟨rfl, rfl, rfl⟩ | exact ⟨rfl, rfl⟩ | (refine Av.Vc ?_ ?_ <;> intro hBr <;> first | (exfalso; omega) | (exfalso; contradiction) | (exfalso; exact hBr rfl) | skip) | refine Av.Vd ?_ | exact rfl)
end
theorem splan_room {A L : Nat} {t : Tr} (hf : Fit A t) (g a z u pl : Nat) (hg : 1 ≤ g ∧ g ≤ 1099511627776) (os : List OpP) (ho : FewO os) (h : fitsE A t.toL os = 0) (hL : L ≤ 256) (hp : pl ≤ L) (hk : szT (encOps os).1.length ≤ L - pl) :
  SM 47 [.ptr 0 0, .vs os.length (opC os)] [stB A L t g a z u pl none] [.ptr 0 0] (.tup [.sl 1 (szT (encOps os).1.length + 1), Z 0])
   [stB A L t g a z u (pl + szT (encOps os).1.length) (some (Tr.apply os t)), ddB (lgD A g pl (encOps os).1 (szT (encOps os).1.length) ++ syD) false] := by
 have c := sok_ok A L t g a z u pl none hg.1
 have c2 := sfits_ok (L := L) hf g a z u pl none hg.1 os ho
 rw [h] at c2
 have c3 := encode_ok os ho.sized
 obtain ⟨e1, _⟩ := fits_enc h
 rw [e1] at c3
 obtain ⟨x0, x1⟩ := enc_len e1
 have hs := bs_size (encOps os).1
 have c4 := tpsize_ok (encOps os).1.length
 rw [← hs] at c4
 have c5 := sleft_ok A L t g a z u pl none hg.1 (by omega) (by omega)
 have hA := hf.top
 have c6 := log_ok (A := A) (L := L) (by omega)
 have c7 := tlay_yes (t := (encOps os).1) (g := g) (at_ := ((pl : Nat) : Int)) (most := (L : Int)) ⟨by omega, by omega, x0, x1, by omega, by omega, by omega, by omega, by omega⟩
 rw [npc_row x0 x1] at c7
 have c8 := tapply_ok hf.good (ho.ok hf) _ rfl
 have hcell : ∀ i, i < szT (encOps os).1.length → ((layT (encOps os).1 g ((pl : Nat) : Int)).map T)[i]? = some (T (secT (encOps os).1 g ((pl : Nat) : Int) i)) := fun i hi => by
  rw [List.getElem?_map, layT_at ⟨x0, x1⟩ hi]; rfl
 have hk' : (szT (encOps os).1.length : Int) ≤ (L : Int) - (pl : Int) := by omega
 have hkb : szT (encOps os).1.length ≤ 256 := by omega
 have hkp : 1 ≤ szT (encOps os).1.length := (szT_good ⟨x0, x1⟩).2.1
 obtain ⟨k, hkk⟩ : ∃ k, k = szT (encOps os).1.length := ⟨_, rfl⟩
 have c4 : SP 107 [Z (bs (encOps os).1).size] (Z k) := by rw [hkk, ← hs]; exact c4
 rw [← hkk] at c7 hcell hk' hkb hkp ⊢
 have hfin : ddC (lgD A g pl (encOps os).1 k ++ syD) = ddC (lgD A g pl (encOps os).1 k) ++ [B true, Z 0, T []] := by rw [ddC_app]; rfl
 show SM _ _ _ _ _ [_, ⟨ddC (lgD A g pl (encOps os).1 k ++ syD), some 174, false, true⟩]
 rw [hfin]
 clear hfin hkk h ho hf hs e1 
 obtain ⟨C, hC⟩ : ∃ C : Nat → List AV, C = fun i => ddC (lgD A g pl (encOps os).1 i) := ⟨_, rfl⟩
 have hCl : ∀ i, (C i).length = (i) * 3 := fun i => by rw [hC]; simp only [List.length_append, ddC_len, lgD_len]
 have hCs : ∀ i : Nat, C i ++ [B false, Z (((areaA A 2 : Nat) : Int) + ((pl : Nat) : Int) + (i : Int)), T (secT (encOps os).1 g ((pl : Nat) : Int) i)] = C (i + 1) := fun i => by
  rw [hC]; simp only
  rw [lgD_succ, ddC_app, show ((areaA A 2 : Nat) : Int) + ((pl : Nat) : Int) + (i : Int) = ((areaA A 2 + pl + i : Nat) : Int) by omega]; rfl
 have hCe : ddC (lgD A g pl (encOps os).1 k) = C k := by rw [hC]
 have hC0 : C 0 = [] := by rw [hC]; rfl
 rw [hCe]
 clear hC hCe
 have hF : areaA A 2 ≤ 2000 := by unfold areaA; omega
 generalize areaA A 2 = F at *
 generalize (layT (encOps os).1 g ((pl : Nat) : Int)).map T = LC at *
 obtain ⟨S, hS⟩ : ∃ S : Nat → Key, S = fun i => secT (encOps os).1 g ((pl : Nat) : Int) i := ⟨_, rfl⟩
 have hcell2 : ∀ i, i < k → LC[i]? = some (T (S i)) := by rw [hS]; exact hcell
 have hCs2 : ∀ i : Nat, C i ++ [B false, Z ((F : Int) + ((pl : Nat) : Int) + (i : Int)), T (S i)] = C (i + 1) := by rw [hS]; exact hCs
 clear hS hcell hCs
 generalize (encOps os).1 = x at *
 generalize Tr.apply os t = t2 at *
  
 have hs1 : sizeT Tryz.prog 9 = 1 := by kernel_rfl
 refine SM_ Tryz.func47 (by kernel_rfl) rfl (Nat.le_of_ble_eq_true rfl) (Nat.le_succ 1) ?_
 show avc Tryz.prog SP _ _ _ _ _ _
 dsimp only [avc, startS, Array.toList, Tryz.f47]
 repeat' ((try conv => whnf) <;> first | refine Av.Va ?_ | refine ⟨_, _, _, c, ?_⟩ | refine ⟨_, _, _, c2, ?_⟩ | refine ⟨_, c3, ?_⟩ | refine ⟨_, c4, ?_⟩ | refine ⟨_, _, _, c5, ?_⟩ | refine ⟨_, c7, ?_⟩ | refine ⟨[], [0,0,2,6,14,30,0,64,192,448,0,1024,3072,7168,15360,32767,65535,131071,131071,262143,1048575], Av.len_ok rfl (by kernel_rfl), ?_⟩ | refine ⟨[], [0,1,3,7,15,0,32,96,224,511,0,2047,0,8191], Av.len_ok rfl (by kernel_rfl), ?_⟩ | exact True.intro | refine Av.Vb ?_ | exact ⟨rfl, rfl, rfl⟩ | exact ⟨rfl, rfl⟩ | (refine Av.Vc ?_ ?_ <;> intro hBr <;> first | (exfalso; omega) | (exfalso; contradiction) | (exfalso; exact hBr rfl) | skip) | refine Av.Vd ?_ | exact rfl)
 refine ⟨[69, 68, 67, 0, 1, 9, 10], [], fun vs bl => ∃ (i : Nat) (K : List AV), i ≤ k ∧ K = C i ∧ vs = [Z i, Z k, .sl 0 k, .ptr 1 0, .vs os.length (opC os), .ptr 2 0, .sl 0 k] ∧
  (i = 0 ∧ bl = [⟨LC, some 9, true, true⟩, stB A L t g a z u pl none, ls0] ∨ 0 < i ∧ bl = [⟨LC, some 9, true, true⟩, stB A L t g a z u pl none, ⟨[.sl 3 i], none, false, false⟩, ⟨K, some 174, false, true⟩]), muI k, ?_, ?_⟩
 ·exact ⟨0, _, by omega, rfl, rfl, .inl ⟨rfl, rfl⟩⟩
 clear c c2 c3 c4 c5 c7
 rintro vs bl ⟨i, K, hi, hK, rfl, hb⟩
 have hKl : K.length = i * 3 := by rw [hK, hCl]
 by_cases hik : i < k
 ·have hat : LC[mulS (i : Int).toNat (sizeT Tryz.prog 9) + 0]? = some (T (S i)) := by rw [hs1, mulS_eq, Nat.mul_one, Int.toNat_natCast]; exact hcell2 i hik
  have hdec : muI k [Z ((i : Int) + 1)] [] < muI k [Z i] [] := by show k - ((i : Int) + 1).toNat < k - (i : Int).toNat; omega
  have hst := hCs2 i
  rw [← hK] at hst
  have w1 := lwrite_nil ((F : Int) + (pl : Int) + (i : Int)) (S i)
  have w2 := lwrite_app i K false hKl (by omega) ((F : Int) + (pl : Int) + (i : Int)) (S i)
  generalize S i = s at *
  rcases hb with ⟨h0, rfl⟩ | ⟨h0, rfl⟩
  ·have hK0 : K = [] := by rw [hK, h0]; exact hC0
   rw [hK0, List.nil_append] at hst
   clear hcell2 hCs2 hCl w2 hC0 hK hK0
   subst h0
   repeat' ((try conv => whnf) <;> first | refine Av.Va ?_ | (refine ⟨_, hat, ?_⟩) | refine ⟨_, c6, ?_⟩ | refine ⟨_, _, _, w1, ?_⟩ | refine ⟨[], [0,0,2,6,14,30,0,64,192,448,0,1024,3072,7168,15360,32767,65535,131071,131071,262143,1048575], Av.len_ok rfl (by kernel_rfl), ?_⟩ | refine ⟨[], [0,1,3,7,15,0,32,96,224,511,0,2047,0,8191], Av.len_ok rfl (by kernel_rfl), ?_⟩ | exact True.intro | refine Av.Vb ?_ | exact ⟨rfl, rfl, rfl⟩ | exact ⟨rfl, rfl⟩ | (refine Av.Vc ?_ ?_ <;> intro hBr <;> first | (exfalso; omega) | (exfalso; contradiction) | (exfalso; exact hBr rfl) | skip) | refine Av.Vd ?_ | exact rfl)
   exact ⟨⟨1, _, by omega, hst, rfl, .inr ⟨by omega, rfl⟩⟩, hdec⟩
  ·clear hcell2 hCs2 hCl w1 hC0 hK
   repeat' ((try conv => whnf) <;> first | refine Av.Va ?_ | (refine ⟨_, hat, ?_⟩) | refine ⟨_, c6, ?_⟩ | refine ⟨_, _, _, w2, ?_⟩ | refine ⟨[], [0,0,2,6,14,30,0,64,192,448,0,1024,3072,7168,15360,32767,65535,131071,131071,262143,1048575], Av.len_ok rfl (by kernel_rfl), ?_⟩ | refine ⟨[], [0,1,3,7,15,0,32,96,224,511,0,2047,0,8191], Av.len_ok rfl (by kernel_rfl), ?_⟩ | exact True.intro | refine Av.Vb ?_ | exact ⟨rfl, rfl, rfl⟩ | exact ⟨rfl, rfl⟩ | (refine Av.Vc ?_ ?_ <;> intro hBr <;> first | (exfalso; omega) | (exfalso; contradiction) | (exfalso; exact hBr rfl) | skip) | refine Av.Vd ?_ | exact rfl)
   exact ⟨⟨i + 1, _, by omega, hst, rfl, .inr ⟨by omega, rfl⟩⟩, hdec⟩
 ·obtain rfl : i = k := by omega
  rcases hb with ⟨h0, rfl⟩ | ⟨h0, rfl⟩
  ·omega
  have w1 := lsync_app i K false hKl (by omega)
  rw [← hK]
  clear hcell2 hCs2 hCl hK hC0
  repeat' ((try conv => whnf) <;> first | refine Av.Va ?_ | refine ⟨_, _, _, w1, ?_⟩ | refine ⟨_, c8, ?_⟩ | refine ⟨[], [0,0,2,6,14,30,0,64,192,448,0,1024,3072,7168,15360,32767,65535,131071,131071,262143,1048575], Av.len_ok rfl (by kernel_rfl), ?_⟩ | refine ⟨[], [0,1,3,7,15,0,32,96,224,511,0,2047,0,8191], Av.len_ok rfl (by kernel_rfl), ?_⟩ | exact True.intro | refine Av.Vb ?_ | exact ⟨rfl, rfl, rfl⟩ | exact ⟨rfl, rfl⟩ | (refine Av.Vc ?_ ?_ <;> intro hBr <;> first | (exfalso; omega) | (exfalso; contradiction) | (exfalso; exact hBr rfl) | skip) | refine Av.Vd ?_ | exact rfl)
theorem splan_anew {A L : Nat} {t : Tr} (hf : Fit A t) (g a z u pl : Nat) (hg : 1 ≤ g ∧ g ≤ 1099511627776) (os : List OpP) (ho : FewO os) (h : fitsE A t.toL os = 0) (hL : L ≤ 256) (hp : pl ≤ L) (hk : L - pl < szT (encOps os).1.length) (hk2 : szT (encOps os).1.length ≤ L) (hg2 : g < 1099511627776) (ha : a ≤ 1) :
  SM 47 [.ptr 0 0, .vs os.length (opC os)] [stB A L t g a z u pl none] [.ptr 0 0] (.tup [.sl 1 ((npc (Shf.encB t.toL) + 3) + szT (encOps os).1.length + 1), Z 0])
   [stB A L t (g + 1) (1 - a) (Shf.encB t.toL).length (sumN (Shf.encB t.toL)) (0 + szT (encOps os).1.length) (some (Tr.apply os t)), ddB (layD A (Shf.encB t.toL) (g + 1) (1 - a) (Shf.encB t.toL).length (sumN (Shf.encB t.toL)) ++ lgD A (g + 1) 0 (encOps os).1 (szT (encOps os).1.length) ++ syD) false] := by
 have c := sok_ok A L t g a z u pl none hg.1
 have c2 := sfits_ok (L := L) hf g a z u pl none hg.1 os ho
 rw [h] at c2
 have c3 := encode_ok os ho.sized
 obtain ⟨e1, _⟩ := fits_enc h
 rw [e1] at c3
 obtain ⟨x0, x1⟩ := enc_len e1
 have hs := bs_size (encOps os).1
 have c4 := tpsize_ok (encOps os).1.length
 rw [← hs] at c4
 have c5 := sleft_ok A L t g a z u pl none hg.1 (by omega) (by omega)
 have hA := hf.top
 have c6 := log_ok (A := A) (L := L) (by omega)
 have c7 := tlay_yes (t := (encOps os).1) (g := (g + 1)) (at_ := ((0 : Nat) : Int)) (most := (L : Int)) ⟨by omega, by omega, x0, x1, by omega, by omega, by omega, by omega, by omega⟩
 rw [npc_row x0 x1] at c7
 have c8 := tapply_ok hf.good (ho.ok hf) _ rfl
 have hcell : ∀ i, i < szT (encOps os).1.length → ((layT (encOps os).1 (g + 1) ((0 : Nat) : Int)).map T)[i]? = some (T (secT (encOps os).1 (g + 1) ((0 : Nat) : Int) i)) := fun i hi => by
  rw [List.getElem?_map, layT_at ⟨x0, x1⟩ hi]; rfl
 have hk' : (szT (encOps os).1.length : Int) > (L : Int) - (pl : Int) := by omega
 have hkb : szT (encOps os).1.length ≤ 256 := by omega
 have hkp : 1 ≤ szT (encOps os).1.length := (szT_good ⟨x0, x1⟩).2.1
 obtain ⟨k, hkk⟩ : ∃ k, k = szT (encOps os).1.length := ⟨_, rfl⟩
 have c4 : SP 107 [Z (bs (encOps os).1).size] (Z k) := by rw [hkk, ← hs]; exact c4
 rw [← hkk] at c7 hcell hk' hkb hkp ⊢
 have c9 := sanew_ok hf (L := L) g a z u pl none ⟨hg.1, hg2⟩ ha
 obtain ⟨D0, hD0⟩ : ∃ D0, D0 = layD A (Shf.encB t.toL) (g + 1) (1 - a) (Shf.encB t.toL).length (sumN (Shf.encB t.toL)) := ⟨_, rfl⟩
 have hn0 : D0.length = npc (Shf.encB t.toL) + 3 := by rw [hD0, layD_len]
 have hN : npc (Shf.encB t.toL) ≤ 512 := Nat.le_trans hf.fit hA
 have hn1 : npc (Shf.encB t.toL) + 3 ≤ 515 := by omega
 have c9 : SM 88 [.ptr 0 0] [stB A L t g a z u pl none] [.ptr 0 0] (.sl 1 (npc (Shf.encB t.toL) + 3)) [stB A L t (g + 1) (1 - a) (Shf.encB t.toL).length (sumN (Shf.encB t.toL)) 0 none, ⟨ddC D0, some 174, false, true⟩] := by rw [hD0]; exact c9
 rw [← hD0]
 clear hD0
 have hg3 : ¬ (g : Int) = 1099511627776 := by omega
 generalize (Shf.encB t.toL).length = z1 at *
 generalize sumN (Shf.encB t.toL) = u1 at *
 generalize 1 - a = a1 at *
 generalize npc (Shf.encB t.toL) + 3 = n0 at *
 have hfin : ddC (D0 ++ lgD A (g + 1) 0 (encOps os).1 k ++ syD) = ddC D0 ++ ddC (lgD A (g + 1) 0 (encOps os).1 k) ++ [B true, Z 0, T []] := by rw [ddC_app, ddC_app]; rfl
 show SM _ _ _ _ _ [_, ⟨ddC (D0 ++ lgD A (g + 1) 0 (encOps os).1 k ++ syD), some 174, false, true⟩]
 rw [hfin]
 clear hfin hkk h ho hf hs e1 hN
 obtain ⟨C, hC⟩ : ∃ C : Nat → List AV, C = fun i => ddC D0 ++ ddC (lgD A (g + 1) 0 (encOps os).1 i) := ⟨_, rfl⟩
 have hCl : ∀ i, (C i).length = (n0 + i) * 3 := fun i => by rw [hC]; simp only [List.length_append, ddC_len, lgD_len, hn0]; omega
 have hCs : ∀ i : Nat, C i ++ [B false, Z (((areaA A 2 : Nat) : Int) + ((0 : Nat) : Int) + (i : Int)), T (secT (encOps os).1 (g + 1) ((0 : Nat) : Int) i)] = C (i + 1) := fun i => by
  rw [hC]; simp only
  rw [lgD_succ, ddC_app, show ((areaA A 2 : Nat) : Int) + ((0 : Nat) : Int) + (i : Int) = ((areaA A 2 + 0 + i : Nat) : Int) by omega, ← List.append_assoc]; rfl
 have hCe : ddC D0 ++ ddC (lgD A (g + 1) 0 (encOps os).1 k) = C k := by rw [hC]
 have hC0 : ddC D0 = C 0 := by rw [hC]; simp [lgD, ddC]
 rw [hCe]
 clear hC hCe
 have hF : areaA A 2 ≤ 2000 := by unfold areaA; omega
 generalize areaA A 2 = F at *
 generalize (layT (encOps os).1 (g + 1) ((0 : Nat) : Int)).map T = LC at *
 obtain ⟨S, hS⟩ : ∃ S : Nat → Key, S = fun i => secT (encOps os).1 (g + 1) ((0 : Nat) : Int) i := ⟨_, rfl⟩
 have hcell2 : ∀ i, i < k → LC[i]? = some (T (S i)) := by rw [hS]; exact hcell
 have hCs2 : ∀ i : Nat, C i ++ [B false, Z ((F : Int) + ((0 : Nat) : Int) + (i : Int)), T (S i)] = C (i + 1) := by rw [hS]; exact hCs
 clear hS hcell hCs
 generalize (encOps os).1 = x at *
 generalize Tr.apply os t = t2 at *
 generalize g + 1 = g1 at *
 have hs1 : sizeT Tryz.prog 9 = 1 := by kernel_rfl
 refine SM_ Tryz.func47 (by kernel_rfl) rfl (Nat.le_of_ble_eq_true rfl) (Nat.le_succ 1) ?_
 show avc Tryz.prog SP _ _ _ _ _ _
 dsimp only [avc, startS, Array.toList, Tryz.f47]
 repeat' ((try conv => whnf) <;> first | refine Av.Va ?_ | refine ⟨_, _, _, c, ?_⟩ | refine ⟨_, _, _, c2, ?_⟩ | refine ⟨_, c3, ?_⟩ | refine ⟨_, c4, ?_⟩ | refine ⟨_, _, _, c5, ?_⟩ | refine ⟨_, c7, ?_⟩ | refine ⟨_, _, _, c9, ?_⟩ | refine ⟨[], [0,0,2,6,14,30,0,64,192,448,0,1024,3072,7168,15360,32767,65535,131071,131071,262143,1048575], Av.len_ok rfl (by kernel_rfl), ?_⟩ | refine ⟨[], [0,1,3,7,15,0,32,96,224,511,0,2047,0,8191], Av.len_ok rfl (by kernel_rfl), ?_⟩ | exact True.intro | refine Av.Vb ?_ | exact ⟨rfl, rfl, rfl⟩ | exact ⟨rfl, rfl⟩ | (refine Av.Vc ?_ ?_ <;> intro hBr <;> first | (exfalso; omega) | (exfalso; contradiction) | (exfalso; exact hBr rfl) | skip) | refine Av.Vd ?_ | exact rfl)
 refine ⟨[69, 68, 67, 0, 1, 9, 10], [], fun vs bl => ∃ (i m : Nat) (K : List AV), i ≤ k ∧ K = C i ∧ m = n0 + i ∧ (vs = [Z i, Z k, .sl 0 k, .ptr 1 0, .vs os.length (opC os), .ptr 2 0, .sl 0 k] ∧ bl = [⟨LC, some 9, true, true⟩, stB A L t g1 a1 z1 u1 0 none, ⟨[.sl 3 m], none, false, false⟩, ⟨K, some 174, false, true⟩]), muI k, ?_, ?_⟩
 ·exact ⟨0, _, _, by omega, hC0, rfl, rfl, rfl⟩
 clear c c2 c3 c4 c5 c7 c9 hC0
 rintro vs bl ⟨i, m, K, hi, hK, hm, rfl, rfl⟩
 have hKl : K.length = m * 3 := by rw [hK, hCl, hm]
 by_cases hik : i < k
 ·have hat : LC[mulS (i : Int).toNat (sizeT Tryz.prog 9) + 0]? = some (T (S i)) := by rw [hs1, mulS_eq, Nat.mul_one, Int.toNat_natCast]; exact hcell2 i hik
  have hdec : muI k [Z ((i : Int) + 1)] [] < muI k [Z i] [] := by show k - ((i : Int) + 1).toNat < k - (i : Int).toNat; omega
  have hst := hCs2 i
  rw [← hK] at hst
  have w2 := lwrite_app m K false hKl (by omega) ((F : Int) + ((0 : Nat) : Int) + (i : Int)) (S i)
  generalize S i = s at *
  clear hcell2 hCs2 hCl
  repeat' ((try conv => whnf) <;> first | refine Av.Va ?_ | (refine ⟨_, hat, ?_⟩) | refine ⟨_, c6, ?_⟩ | refine ⟨_, _, _, w2, ?_⟩ | refine ⟨[], [0,0,2,6,14,30,0,64,192,448,0,1024,3072,7168,15360,32767,65535,131071,131071,262143,1048575], Av.len_ok rfl (by kernel_rfl), ?_⟩ | refine ⟨[], [0,1,3,7,15,0,32,96,224,511,0,2047,0,8191], Av.len_ok rfl (by kernel_rfl), ?_⟩ | exact True.intro | refine Av.Vb ?_ | exact ⟨rfl, rfl, rfl⟩ | exact ⟨rfl, rfl⟩ | (refine Av.Vc ?_ ?_ <;> intro hBr <;> first | (exfalso; omega) | (exfalso; contradiction) | (exfalso; exact hBr rfl) | skip) | refine Av.Vd ?_ | exact rfl)
  exact ⟨⟨i + 1, _, _, by omega, hst, by omega, rfl, rfl⟩, hdec⟩
 ·obtain rfl : i = k := by omega
  have w1 := lsync_app m K false hKl (by omega)
  rw [← hK, show n0 + i + 1 = m + 1 by omega]
  clear hcell2 hCs2 hCl hK
  repeat' ((try conv => whnf) <;> first | refine Av.Va ?_ | refine ⟨_, _, _, w1, ?_⟩ | refine ⟨_, c8, ?_⟩ | refine ⟨[], [0,0,2,6,14,30,0,64,192,448,0,1024,3072,7168,15360,32767,65535,131071,131071,262143,1048575], Av.len_ok rfl (by kernel_rfl), ?_⟩ | refine ⟨[], [0,1,3,7,15,0,32,96,224,511,0,2047,0,8191], Av.len_ok rfl (by kernel_rfl), ?_⟩ | exact True.intro | refine Av.Vb ?_ | exact ⟨rfl, rfl, rfl⟩ | exact ⟨rfl, rfl⟩ | (refine Av.Vc ?_ ?_ <;> intro hBr <;> first | (exfalso; omega) | (exfalso; contradiction) | (exfalso; exact hBr rfl) | skip) | refine Av.Vd ?_ | exact rfl)
abbrev enc0 : List UInt8 := Shf.encB (Tr.nil).toL
theorem fit0 {A : Nat} (h1 : 1 ≤ A) (h2 : A ≤ 512) : Fit A .nil := by
 have hb : enc0.length = 4 := by rw [Shf.encB_len]; rfl
 exact ⟨Tr.good_nil, by unfold npc; rw [hb]; omega, h2⟩
def fmtD (A : Nat) : List Dd := layD A enc0 1 0 enc0.length (sumN enc0)
theorem format_ok {A Lg : Nat} (h : OkSh A Lg) (L2 : List Key) (w2 : Int) (hr : Dk.run ⟨.nil, newL (2 + 2 * A + Lg), [], 0⟩ (fmtD A) = ⟨.nil, L2, [], w2⟩) (hD : DdOk (2 + 2 * A + Lg) (fmtD A)) :
  SM 41 [shA A Lg] [] [] (.tup [.ptr 0 0, Z 0]) (dsk .nil L2 [] w2) := by
 have c1 := right_ok A Lg
 rw [decide_eq_true h] at c1
 have c2 := ssectors_ok A Lg
 rw [show sectN (A : Int) (Lg : Int) = ((2 + 2 * A + Lg : Nat) : Int) by unfold sectN; rw [if_pos h]; omega] at c2
 obtain ⟨h1, h2, h3, h4⟩ := h
 have c3 := dnew_ok (n := 2 + 2 * A + Lg) (by omega) (by omega)
 have c4 := zwS (stold_ok (fit0 (A := A) (by omega) (by omega)))
 have hb : enc0.length = 4 := by rw [Shf.encB_len]; rfl
 have hn : npc enc0 = 1 := by unfold npc; rw [hb]
 have c5 := llay_z A Lg 1 0 enc0.length (sumN enc0) (by omega) (by omega) (by omega) (by omega) (by omega) (sumN_lt _)
 have hl : (fmtD A).length = npc enc0 + 3 := layD_len _ _ _ _ _ _
 have hnl : (newL (2 + 2 * A + Lg)).length = 2 + 2 * A + Lg := newL_len _
 have c6 := perform_ok ⟨.nil, newL (2 + 2 * A + Lg), [], 0⟩ (fmtD A) false 0 ⟨rfl, rfl, Nat.le_refl _, Int.le_refl _⟩ (by rw [hnl]; exact hD) (by rw [hl, hn]; omega) (by rw [hl, hn]; show (0 : Int) + _ ≤ _; omega)
 rw [hr] at c6
 have c5 : SM 99 [.ptr 0 0, shA A Lg, zTr, rt ((1 : Nat) : Int) ((0 : Nat) : Int) (enc0.length : Int) (sumN enc0 : Int)] [ls0] [.ptr 0 0] (.tup []) [ls1 (fmtD A).length, ⟨ddC (fmtD A), some 174, false, true⟩] := by rw [hl]; exact c5
 have c6 : SM 58 [.ptr 0 0, .sl 1 (fmtD A).length] (dskR .nil (newL (2 + 2 * A + Lg)) [] 0 ⟨ddC (fmtD A), some 174, false, true⟩) [.ptr 0 0] (Z 0) (dsk .nil L2 [] w2) := c6
 clear hr hD hl hnl hn hb
 have c4 : SP 98 [zTr] (.tup [Z enc0.length, U32 (sumN enc0)]) := c4
 generalize ddC (fmtD A) = C at *
 generalize (fmtD A).length = n at *
 generalize enc0.length = z at *
 generalize sumN enc0 = u at *
 generalize 2 + 2 * A + Lg = N at *
 generalize newL N = L at *
 refine SM_ Tryz.func41 (by kernel_rfl) rfl (Nat.le_of_ble_eq_true rfl) (Nat.zero_le _) ?_
 show avc Tryz.prog SP _ _ _ _ _ _
 dsimp only [avc, startS, Array.toList, Tryz.f41]
 repeat' ((try conv => whnf) <;> first | refine Av.Va ?_ | refine ⟨_, c1, ?_⟩ | refine ⟨_, c2, ?_⟩ | refine ⟨_, _, _, c3, ?_⟩ | refine ⟨_, c4, ?_⟩ | refine ⟨_, _, _, c5, ?_⟩ | refine ⟨_, _, _, c6, ?_⟩ | exact True.intro | refine Av.Vb ?_ | exact ⟨rfl, rfl, rfl⟩ | exact ⟨rfl, rfl⟩ | (refine Av.Vc ?_ ?_ <;> intro hBr <;> first | (exfalso; omega) | (exfalso; contradiction) | (exfalso; exact hBr rfl) | skip) | refine Av.Vd ?_ | exact rfl)
section
variable (A Lg : Nat) (t : Tr) (g a z u pl : Nat) (L : List Key) (w : Int) (os : List OpP)
theorem do_no (e : Int) (he : e ≠ 0) (nx : Option Tr) (cp : SM 47 [.ptr 0 0, .vs os.length (opC os)] [stB A Lg t g a z u pl nx] [.ptr 0 0] (.tup [nilA, Z e]) [stB A Lg t g a z u pl nx]) :
  SM 35 [.ptr 0 0, .ptr 1 0, .vs os.length (opC os)] (dskS .nil L [] w (stB A Lg t g a z u pl nx)) [.ptr 0 0, .ptr 1 0] (Z e) (dskS .nil L [] w (stB A Lg t g a z u pl nx)) := by
 cases nx
 all_goals
  refine SM_ Tryz.func35 (by kernel_rfl) rfl (Nat.le_of_ble_eq_true rfl) (show 2 ≤ 3 by omega) ?_
  show avc Tryz.prog SP _ _ _ _ _ _
  dsimp only [avc, startS, Array.toList, Tryz.f35]
  repeat' ((try conv => whnf) <;> first | refine Av.Va ?_ | refine ⟨_, _, _, cp, ?_⟩ | exact True.intro | refine Av.Vb ?_ | exact ⟨rfl, rfl, rfl⟩ | exact ⟨rfl, rfl⟩ | (refine Av.Vc ?_ ?_ <;> intro hBr <;> first | (exfalso; omega) | (exfalso; contradiction) | (exfalso; exact hBr rfl) | skip) | refine Av.Vd ?_ | exact rfl)
theorem do_yes (g2 a2 z2 u2 pl2 : Nat) (t2 : Tr) (n : Nat) (D : List Dd) (hn : n = D.length) (hg2 : 1 ≤ g2) (cp : SM 47 [.ptr 0 0, .vs os.length (opC os)] [stB A Lg t g a z u pl none] [.ptr 0 0] (.tup [.sl 1 n, Z 0]) [stB A Lg t g2 a2 z2 u2 pl2 (some t2), ddB D false])
  (L2 : List Key) (w2 : Int) (hr : Dk.run ⟨.nil, L, [], w⟩ D = ⟨.nil, L2, [], w2⟩) (hD : DdOk L.length D) (hl : D.length ≤ 999) (hw0 : 0 ≤ w) (hw : w + D.length ≤ 1000000) :
  SM 35 [.ptr 0 0, .ptr 1 0, .vs os.length (opC os)] (dskS .nil L [] w (stB A Lg t g a z u pl none)) [.ptr 0 0, .ptr 1 0] (Z 0) (dskS .nil L2 [] w2 (stB A Lg t2 g2 a2 z2 u2 pl2 none)) := by
 subst hn
 have c2 := perform_ok ⟨.nil, L, [], w⟩ D false 0 ⟨rfl, rfl, Nat.le_refl _, hw0⟩ hD (by omega) hw
 rw [hr] at c2
 have c3 := sapply_ok A Lg t g2 a2 z2 u2 pl2 hg2 t2
 have cp : SM 47 [.ptr 0 0, .vs os.length (opC os)] [stB A Lg t g a z u pl none] [.ptr 0 0] (.tup [.sl 1 D.length, Z 0]) [stB A Lg t g2 a2 z2 u2 pl2 (some t2), ⟨ddC D, some 174, false, true⟩] := cp
 have c2 : SM 58 [.ptr 0 0, .sl 1 D.length] (dskR .nil L [] w ⟨ddC D, some 174, false, true⟩) [.ptr 0 0] (Z 0) (dsk .nil L2 [] w2) := c2
 clear hr hD hl hw
 generalize ddC D = C at *
 generalize D.length = n at *
 refine SM_ Tryz.func35 (by kernel_rfl) rfl (Nat.le_of_ble_eq_true rfl) (show 2 ≤ 3 by omega) ?_
 show avc Tryz.prog SP _ _ _ _ _ _
 dsimp only [avc, startS, Array.toList, Tryz.f35]
 repeat' ((try conv => whnf) <;> first | refine Av.Va ?_ | refine ⟨_, _, _, cp, ?_⟩ | refine ⟨_, _, _, c2, ?_⟩ | refine ⟨_, _, _, c3, ?_⟩ | exact True.intro | refine Av.Vb ?_ | exact ⟨rfl, rfl, rfl⟩ | exact ⟨rfl, rfl⟩ | (refine Av.Vc ?_ ?_ <;> intro hBr <;> first | (exfalso; omega) | (exfalso; contradiction) | (exfalso; exact hBr rfl) | skip) | refine Av.Vd ?_ | exact rfl)
end
end Go.Proofs.YtbaedepmogkkeaaGreat.Av
