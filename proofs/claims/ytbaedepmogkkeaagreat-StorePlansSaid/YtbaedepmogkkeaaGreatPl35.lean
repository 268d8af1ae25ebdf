/- What the claim stands on, Pl35: contracts of functions and plain facts. No conditions. -/
import Derived.Test.YtbaedepmogkkeaaGreatPl34
import Derived.Test.YtbaedepmogkkeaaGreatPl21
import Derived.Test.YtbaedepmogkkeaaGreatPl33
import Derived.Test.YtbaedepmogkkeaaGreatPl27
import Derived.Test.YtbaedepmogkkeaaGreatPl20
namespace Go.Proofs.YtbaedepmogkkeaaGreat.Av
open Go Go.RowKit Tre
set_option linter.unusedVariables false
set_option linter.unusedSimpArgs false
set_option maxRecDepth 100000
set_option maxHeartbeats 4000000
def lgD (A g pl : Nat) (x : Key) (k : Nat) : List Dd := (List.range k).map fun i => ⟨false, areaA A 2 + pl + i, secT x g pl i⟩
theorem lgD_len (A g pl : Nat) (x : Key) (k : Nat) : (lgD A g pl x k).length = k := by simp [lgD]
theorem lgD_succ (A g pl : Nat) (x : Key) (k : Nat) : lgD A g pl x (k + 1) = lgD A g pl x k ++ [⟨false, areaA A 2 + pl + k, secT x g pl k⟩] := by simp [lgD, List.range_succ]
def syD : List Dd := [⟨true, 0, []⟩]
theorem enc_len {os : List OpP} (h : (encOps os).2 = 0) : (encOps os).1 ≠ [] ∧ (encOps os).1.length ≤ 1400 := by
 obtain ⟨_, h1, h2, _⟩ := dec_enc h
 refine ⟨fun e => ?_, by omega⟩
 rw [e] at h1; simp at h1; omega
theorem fits_enc {A : Nat} {l : List Pr} {os : List OpP} (h : fitsE A l os = 0) : (encOps os).2 = 0 ∧ npc (Shf.encB (applyL os l)) ≤ A := by
 unfold fitsE at h
 split at h
 ·cases h
 ·split at h
  ·rename_i h1; exact absurd h h1
  ·rename_i h1
   split at h
   ·rename_i h2
    exact ⟨by simpa using h1, h2⟩
   ·cases h
section
variable (A L : Nat) (t : Tr) (g a z u pl : Nat)
theorem splan_state (hg : 1 ≤ g) (t' : Tr) (os : List OpP) : SM 47 [.ptr 0 0, .vs os.length (opC os)] [stB A L t g a z u pl (some t')] [.ptr 0 0] (.tup [nilA, Z 9]) [stB A L t g a z u pl (some t')] := by
 have c := sok_ok A L t g a z u pl (some t') hg
 refine SM_ Tryz.func47 (by kernel_rfl) rfl (Nat.le_of_ble_eq_true rfl) (Nat.le_succ 1) ?_
 show avc Tryz.prog SP _ _ _ _ _ _
 dsimp only [avc, startS, Array.toList, Tryz.f47]
 repeat' ((try conv => whnf) <;> first | refine Av.Va ?_ | refine ⟨_, _, _, c, ?_⟩ | refine ⟨[], [0,0,2,6,14,30,0,64,192,448,0,1024,3072,7168,15360,32767,65535,131071,131071,262143,1048575], Av.len_ok rfl (by kernel_rfl), ?_⟩ | refine ⟨[], [0,1,3,7,15,0,32,96,224,511,0,2047,0,8191], Av.len_ok rfl (by kernel_rfl), ?_⟩ | exact True.intro | refine Av.Vb ?_ | exact ⟨rfl, rfl, rfl⟩ | exact ⟨rfl, rfl⟩ | (refine Av.Vc ?_ ?_ <;> intro hBr <;> first | (exfalso; omega) | (exfalso; contradiction) | (exfalso; exact hBr rfl) | skip) | refine Av.Vd ?_ | exact rfl)
theorem splan_no (hf : Fit A t) (hg : 1 ≤ g) (os : List OpP) (ho : FewO os) (h : fitsE A t.toL os ≠ 0) : SM 47 [.ptr 0 0, .vs os.length (opC os)] [stB A L t g a z u pl none] [.ptr 0 0] (.tup [nilA, Z (fitsE A t.toL os)]) [stB A L t g a z u pl none] := by
 have c := sok_ok A L t g a z u pl none hg
 have c2 := sfits_ok (L := L) hf g a z u pl none hg os ho
 generalize fitsE A t.toL os = e at *
 refine SM_ Tryz.func47 (by kernel_rfl) rfl (Nat.le_of_ble_eq_true rfl) (Nat.le_succ 1) ?_
 show avc Tryz.prog SP _ _ _ _ _ _
 dsimp only [avc, startS, Array.toList, Tryz.f47]
 repeat' ((try conv => whnf) <;> first | refine Av.Va ?_ | refine ⟨_, _, _, c, ?_⟩ | refine ⟨_, _, _, c2, ?_⟩ | refine ⟨[], [0,0,2,6,14,30,0,64,192,448,0,1024,3072,7168,15360,32767,65535,131071,131071,262143,1048575], Av.len_ok rfl (by kernel_rfl), ?_⟩ | refine ⟨[], [0,1,3,7,15,0,32,96,224,511,0,2047,0,8191], Av.len_ok rfl (by kernel_rfl), ?_⟩ | exact True.intro | refine Av.Vb ?_ | exact ⟨rfl, rfl, rfl⟩ | exact ⟨rfl, rfl⟩ | (refine Av.Vc ?_ ?_ <;> intro hBr <;> first | (exfalso; omega) | (exfalso; contradiction) | (exfalso; exact hBr rfl) | skip) | refine Av.Vd ?_ | exact rfl)
end
theorem splan_room {A L : Nat} {t : Tr} (hf : Fit A t) (g a z u pl : Nat) (hg : 1 ≤ g ∧ g ≤ 1099511627776) (os : List OpP) (ho : FewO os) (h : fitsE A t.toL os = 0) (hL : L ≤ 256) (hp : pl ≤ L) (hk : szT (encOps os).1.length ≤ L - pl) :
  SM 47 [.ptr 0 0, .vs os.length (opC os)] [stB A L t g a z u pl none] [.ptr 0 0] (.tup [.sl 1 (szT (encOps os).1.length + 1), Z 0])
   [stB A L t g a z u (pl + szT (encOps os).1.length) (some (Tr.apply os t)), ddB (lgD A g pl (encOps os).1 (szT (encOps os).1.length) ++ syD) false] := by
 have c := sok_ok A L t g a z u pl none hg.1
 have c2 := sfits_ok (L := L) hf g a z u pl none hg.1 os ho
 rw [h] at c2
 have c3 := encode_ok os ho.sized
 obtain ⟨e1, _⟩ := fits_enc h
 rw [e1] at c3
 obtain ⟨x0, x1⟩ := enc_len e1
 have hs := bs_size (encOps os).1
 have c4 := tpsize_ok (encOps os).1.length
 rw [← hs] at c4
 have c5 := sleft_ok A L t g a z u pl none hg.1 (by omega) (by omega)
 have hA := hf.top
 have c6 := log_ok (A := A) (L := L) (by omega)
 have c7 := tlay_yes (t := (encOps os).1) (g := g) (at_ := ((pl : Nat) : Int)) (most := (L : Int)) ⟨by omega, by omega, x0, x1, by omega, by omega, by omega, by omega, by omega⟩
 rw [npc_row x0 x1] at c7
 have c8 := tapply_ok hf.good (ho.ok hf) _ rfl
 have hcell : ∀ i, i < szT (encOps os).1.length → ((layT (encOps os).1 g ((pl : Nat) : Int)).map T)[i]? = some (T (secT (encOps os).1 g ((pl : Nat) : Int) i)) := fun i hi => by
  rw [List.getElem?_map, layT_at ⟨x0, x1⟩ hi]; rfl
 have hk' : (szT (encOps os).1.length : Int) ≤ (L : Int) - (pl : Int) := by omega
 have hkb : szT (encOps os).1.length ≤ 256 := by omega
 have hkp : 1 ≤ szT (encOps os).1.length := (szT_good ⟨x0, x1⟩).2.1
 obtain ⟨k, hkk⟩ : ∃ k, k = szT (encOps os).1.length := ⟨_, rfl⟩
 have c4 : SP 107 [Z (bs (encOps os).1).size] (Z k) := by rw [hkk, ← hs]; exact c4
 rw [← hkk] at c7 hcell hk' hkb hkp ⊢
 have hfin : ddC (lgD A g pl (encOps os).1 k ++ syD) = ddC (lgD A g pl (encOps os).1 k) ++ [B true, Z 0, T []] := by rw [ddC_app]; rfl
 show SM _ _ _ _ _ [_, ⟨ddC (lgD A g pl (encOps os).1 k ++ syD), some 174, false, true⟩]
 rw [hfin]
 clear hfin hkk h ho hf hs e1 
 obtain ⟨C, hC⟩ : ∃ C : Nat → List AV, C = fun i => ddC (lgD A g pl (encOps os).1 i) := ⟨_, rfl⟩
 have hCl : ∀ i, (C i).length = (i) * 3 := fun i => by rw [hC]; simp only [List.length_append, ddC_len, lgD_len]
 have hCs : ∀ i : Nat, C i ++ [B false, Z (((areaA A 2 : Nat) : Int) + ((pl : Nat) : Int) + (i : Int)), T (secT (encOps os).1 g ((pl : Nat) : Int) i)] = C (i + 1) := fun i => by
  rw [hC]; simp only
  rw [lgD_succ, ddC_app, show ((areaA A 2 : Nat) : Int) + ((pl : Nat) : Int) + (i : Int) = ((areaA A 2 + pl + i : Nat) : Int) by omega]; rfl
 have hCe : ddC (lgD A g pl (encOps os).1 k) = C k := by rw [hC]
 have hC0 : C 0 = [] := by rw [hC]; rfl
 rw [hCe]
 clear hC hCe
 have hF : areaA A 2 ≤ 2000 := by unfold areaA; omega
 generalize areaA A 2 = F at *
 generalize (layT (encOps os).1 g ((pl : Nat) : Int)).map T = LC at *
 obtain ⟨S, hS⟩ : ∃ S : Nat → Key, S = fun i => secT (encOps os).1 g ((pl : Nat) : Int) i := ⟨_, rfl⟩
 have hcell2 : ∀ i, i < k → LC[i]? = some (T (S i)) := by rw [hS]; exact hcell
 have hCs2 : ∀ i : Nat, C i ++ [B false, Z ((F : Int) + ((pl : Nat) : Int) + (i : Int)), T (S i)] = C (i + 1) := by rw [hS]; exact hCs
 clear hS hcell hCs
 generalize (encOps os).1 = x at *
 generalize Tr.apply os t = t2 at *
  
 have hs1 : sizeT Tryz.prog 9 = 1 := by kernel_rfl
 refine SM_ Tryz.func47 (by kernel_rfl) rfl (Nat.le_of_ble_eq_true rfl) (Nat.le_succ 1) ?_
 show avc Tryz.prog SP _ _ _ _ _ _
 dsimp only [avc, startS, Array.toList, Tryz.f47]
 repeat' ((try conv => whnf) <;> first | refine Av.Va ?_ | refine ⟨_, _, _, c, ?_⟩ | refine ⟨_, _, _, c2, ?_⟩ | refine ⟨_, c3, ?_⟩ | refine ⟨_, c4, ?_⟩ | refine ⟨_, _, _, c5, ?_⟩ | refine ⟨_, c7, ?_⟩ | refine ⟨[], [0,0,2,6,14,30,0,64,192,448,0,1024,3072,7168,15360,32767,65535,131071,131071,262143,1048575], Av.len_ok rfl (by kernel_rfl), ?_⟩ | refine ⟨[], [0,1,3,7,15,0,32,96,224,511,0,2047,0,8191], Av.len_ok rfl (by kernel_rfl), ?_⟩ | exact True.intro | refine Av.Vb ?_ | exact ⟨rfl, rfl, rfl⟩ | exact ⟨rfl, rfl⟩ | (refine Av.Vc ?_ ?_ <;> intro hBr <;> first | (exfalso; omega) | (exfalso; contradiction) | (exfalso; exact hBr rfl) | skip) | refine Av.Vd ?_ | exact rfl)
 refine ⟨[69, 68, 67, 0, 1, 9, 10], [], fun vs bl => ∃ (i : Nat) (K : List AV), i ≤ k ∧ K = C i ∧ vs = [Z i, Z k, .sl 0 k, .ptr 1 0, .vs os.length (opC os), .ptr 2 0, .sl 0 k] ∧
  (i = 0 ∧ bl = [⟨LC, some 9, true, true⟩, stB A L t g a z u pl none, ls0] ∨ 0 < i ∧ bl = [⟨LC, some 9, true, true⟩, stB A L t g a z u pl none, ⟨[.sl 3 i], none, false, false⟩, ⟨K, some 174, false, true⟩]), muI k, ?_, ?_⟩
 ·exact ⟨0, _, by omega, rfl, rfl, .inl ⟨rfl, rfl⟩⟩
 clear c c2 c3 c4 c5 c7
 rintro vs bl ⟨i, K, hi, hK, rfl, hb⟩
 have hKl : K.length = i * 3 := by rw [hK, hCl]
 by_cases hik : i < k
 ·have hat : LC[mulS (i : Int).toNat (sizeT Tryz.prog 9) + 0]? = some (T (S i)) := by rw [hs1, mulS_eq, Nat.mul_one, Int.toNat_natCast]; exact hcell2 i hik
  have hdec : muI k [Z ((i : Int) + 1)] [] < muI k [Z i] [] := by show k - ((i : Int) + 1).toNat < k - (i : Int).toNat; omega
  have hst := hCs2 i
  rw [← hK] at hst
  have w1 := lwrite_nil ((F : Int) + (pl : Int) + (i : Int)) (S i)
  have w2 := lwrite_app i K false hKl (by omega) ((F : Int) + (pl : Int) + (i : Int)) (S i)
  generalize S i = s at *
  rcases hb with ⟨h0, rfl⟩ | ⟨h0, rfl⟩
  ·have hK0 : K = [] := by rw [hK, h0]; exact hC0
   rw [hK0, List.nil_append] at hst
   clear hcell2 hCs2 hCl w2 hC0 hK hK0
   subst h0
   repeat' ((try conv => whnf) <;> first | refine Av.Va ?_ | (refine ⟨_, hat, ?_⟩) | refine ⟨_, c6, ?_⟩ | refine ⟨_, _, _, w1, ?_⟩ | refine ⟨[], [0,0,2,6,14,30,0,64,192,448,0,1024,3072,7168,15360,32767,65535,131071,131071,262143,1048575], Av.len_ok rfl (by kernel_rfl), ?_⟩ | refine ⟨[], [0,1,3,7,15,0,32,96,224,511,0,2047,0,8191], Av.len_ok rfl (by kernel_rfl), ?_⟩ | exact True.intro | refine Av.Vb ?_ | exact ⟨rfl, rfl, rfl⟩ | exact ⟨rfl, rfl⟩ | (refine Av.Vc ?_ ?_ <;> intro hBr <;> first | (exfalso; omega) | (exfalso; contradiction) | (exfalso; exact hBr rfl) | skip) | refine Av.Vd ?_ | exact rfl)
   exact ⟨⟨1, _, by omega, hst, rfl, .inr ⟨by omega, rfl⟩⟩, hdec⟩
  ·clear hcell2 hCs2 hCl w1 hC0 hK
   repeat' ((try conv => whnf) <;> first | refine Av.Va ?_ | (refine ⟨_, hat, ?_⟩) | refine ⟨_, c6, ?_⟩ | refine ⟨_, _, _, w2, ?_⟩ | refine ⟨[], [0,0,2,6,14,30,0,64,192,448,0,1024,3072,7168,15360,32767,65535,131071,131071,262143,1048575], Av.len_ok rfl (by kernel_rfl), ?_⟩ | refine ⟨[], [0,1,3,7,15,0,32,96,224,511,0,2047,0,8191], Av.len_ok rfl (by kernel_rfl), ?_⟩ | exact True.intro | refine Av.Vb ?_ | exact ⟨rfl, rfl, rfl⟩ | exact ⟨rfl, rfl⟩ | (refine Av.Vc ?_ ?_ <;> intro hBr <;> first | (exfalso; omega) | (exfalso; contradiction) | (exfalso; exact hBr rfl) | skip) | refine Av.Vd ?_ | exact rfl)
   exact ⟨⟨i + 1, _, by omega, hst, rfl, .inr ⟨by omega, rfl⟩⟩, hdec⟩
 ·obtain rfl : i = k := by omega
  rcases hb with ⟨h0, rfl⟩ | ⟨h0, rfl⟩
  ·omega
  have w1 := lsync_app i K false hKl (by omega)
  rw [← hK]
  clear hcell2 hCs2 hCl hK hC0
  repeat' ((try conv => whnf) <;> first | refine Av.Va ?_ | refine ⟨_, _, _, w1, ?_⟩ | refine ⟨_, c8, ?_⟩ | refine ⟨[], [0,0,2,6,14,30,0,64,192,448,0,1024,3072,7168,15360,32767,65535,131071,131071,262143,1048575], Av.len_ok rfl (by kernel_rfl), ?_⟩ | refine ⟨[], [0,1,3,7,15,0,32,96,224,511,0,2047,0,8191], Av.len_ok rfl (by kernel_rfl), ?_⟩ | exact True.intro | refine Av.Vb ?_ | exact ⟨rfl, rfl, rfl⟩ | exact ⟨rfl, rfl⟩ | (refine Av.Vc ?_ ?_ <;> intro hBr <;> first | (exfalso; omega) | (exfalso; contradiction) | (exfalso; exact hBr rfl) | skip) | refine Av.Vd ?_ | exact rfl)
theorem splan_anew {A L : Nat} {t : Tr} (hf : Fit A t) (g a z u pl : Nat) (hg : 1 ≤ g ∧ g ≤ 1099511627776) (os : List OpP) (ho : FewO os) (h : fitsE A t.toL os = 0) (hL : L ≤ 256) (hp : pl ≤ L) (hk : L - pl < szT (encOps os).1.length) (hk2 : szT (encOps os).1.length ≤ L) (hg2 : g < 1099511627776) (ha : a ≤ 1) :
  SM 47 [.ptr 0 0, .vs os.length (opC os)] [stB A L t g a z u pl none] [.ptr 0 0] (.tup [.sl 1 ((npc (Shf.encB t.toL) + 3) + szT (encOps os).1.length + 1), Z 0])
   [stB A L t (g + 1) (1 - a) (Shf.encB t.toL).length (sumN (Shf.encB t.toL)) (0 + szT (encOps os).1.length) (some (Tr.apply os t)), ddB (layD A (Shf.encB t.toL) (g + 1) (1 - a) (Shf.encB t.toL).length (sumN (Shf.encB t.toL)) ++ lgD A (g + 1) 0 (encOps os).1 (szT (encOps os).1.length) ++ syD) false] := by
 have c := sok_ok A L t g a z u pl none hg.1
 have c2 := sfits_ok (L := L) hf g a z u pl none hg.1 os ho
 rw [h] at c2
 have c3 := encode_ok os ho.sized
 obtain ⟨e1, _⟩ := fits_enc h
 rw [e1] at c3
 obtain ⟨x0, x1⟩ := enc_len e1
 have hs := bs_size (encOps os).1
 have c4 := tpsize_ok (encOps os).1.length
 rw [← hs] at c4
 have c5 := sleft_ok A L t g a z u pl none hg.1 (by omega) (by omega)
 have hA := hf.top
 have c6 := log_ok (A := A) (L := L) (by omega)
 have c7 := tlay_yes (t := (encOps os).1) (g := (g + 1)) (at_ := ((0 : Nat) : Int)) (most := (L : Int)) ⟨by omega, by omega, x0, x1, by omega, by omega, by omega, by omega, by omega⟩
 rw [npc_row x0 x1] at c7
 have c8 := tapply_ok hf.good (ho.ok hf) _ rfl
 have hcell : ∀ i, i < szT (encOps os).1.length → ((layT (encOps os).1 (g + 1) ((0 : Nat) : Int)).map T)[i]? = some (T (secT (encOps os).1 (g + 1) ((0 : Nat) : Int) i)) := fun i hi => by
  rw [List.getElem?_map, layT_at ⟨x0, x1⟩ hi]; rfl
 have hk' : (szT (encOps os).1.length : Int) > (L : Int) - (pl : Int) := by omega
 have hkb : szT (encOps os).1.length ≤ 256 := by omega
 have hkp : 1 ≤ szT (encOps os).1.length := (szT_good ⟨x0, x1⟩).2.1
 obtain ⟨k, hkk⟩ : ∃ k, k = szT (encOps os).1.length := ⟨_, rfl⟩
 have c4 : SP 107 [Z (bs (encOps os).1).size] (Z k) := by rw [hkk, ← hs]; exact c4
 rw [← hkk] at c7 hcell hk' hkb hkp ⊢
 have c9 := sanew_ok hf (L := L) g a z u pl none ⟨hg.1, hg2⟩ ha
 obtain ⟨D0, hD0⟩ : ∃ D0, D0 = layD A (Shf.encB t.toL) (g + 1) (1 - a) (Shf.encB t.toL).length (sumN (Shf.encB t.toL)) := ⟨_, rfl⟩
 have hn0 : D0.length = npc (Shf.encB t.toL) + 3 := by rw [hD0, layD_len]
 have hN : npc (Shf.encB t.toL) ≤ 512 := Nat.le_trans hf.fit hA
 have hn1 : npc (Shf.encB t.toL) + 3 ≤ 515 := by omega
 have c9 : SM 88 [.ptr 0 0] [stB A L t g a z u pl none] [.ptr 0 0] (.sl 1 (npc (Shf.encB t.toL) + 3)) [stB A L t (g + 1) (1 - a) (Shf.encB t.toL).length (sumN (Shf.encB t.toL)) 0 none, ⟨ddC D0, some 174, false, true⟩] := by rw [hD0]; exact c9
 rw [← hD0]
 clear hD0
 have hg3 : ¬ (g : Int) = 1099511627776 := by omega
 generalize (Shf.encB t.toL).length = z1 at *
 generalize sumN (Shf.encB t.toL) = u1 at *
 generalize 1 - a = a1 at *
 generalize npc (Shf.encB t.toL) + 3 = n0 at *
 have hfin : ddC (D0 ++ lgD A (g + 1) 0 (encOps os).1 k ++ syD) = ddC D0 ++ ddC (lgD A (g + 1) 0 (encOps os).1 k) ++ [B true, Z 0, T []] := by rw [ddC_app, ddC_app]; rfl
 show SM _ _ _ _ _ [_, ⟨ddC (D0 ++ lgD A (g + 1) 0 (encOps os).1 k ++ syD), some 174, false, true⟩]
 rw [hfin]
 clear hfin hkk h ho hf hs e1 hN
 obtain ⟨C, hC⟩ : ∃ C : Nat → List AV, C = fun i => ddC D0 ++ ddC (lgD A (g + 1) 0 (encOps os).1 i) := ⟨_, rfl⟩
 have hCl : ∀ i, (C i).length = (n0 + i) * 3 := fun i => by rw [hC]; simp only [List.length_append, ddC_len, lgD_len, hn0]; omega
 have hCs : ∀ i : Nat, C i ++ [B false, Z (((areaA A 2 : Nat) : Int) + ((0 : Nat) : Int) + (i : Int)), T (secT (encOps os).1 (g + 1) ((0 : Nat) : Int) i)] = C (i + 1) := fun i => by
  rw [hC]; simp only
  rw [lgD_succ, ddC_app, show ((areaA A 2 : Nat) : Int) + ((0 : Nat) : Int) + (i : Int) = ((areaA A 2 + 0 + i : Nat) : Int) by omega, ← List.append_assoc]; rfl
 have hCe : ddC D0 ++ ddC (lgD A (g + 1) 0 (encOps os).1 k) = C k := by rw [hC]
 have hC0 : ddC D0 = C 0 := by rw [hC]; simp [lgD, ddC]
 rw [hCe]
 clear hC hCe
 have hF : areaA A 2 ≤ 2000 := by unfold areaA; omega
 generalize areaA A 2 = F at *
 generalize (layT (encOps os).1 (g + 1) ((0 : Nat) : Int)).map T = LC at *
 obtain ⟨S, hS⟩ : ∃ S : Nat → Key, S = fun i => secT (encOps os).1 (g + 1) ((0 : Nat) : Int) i := ⟨_, rfl⟩
 have hcell2 : ∀ i, i < k → LC[i]? = some (T (S i)) := by rw [hS]; exact hcell
 have hCs2 : ∀ i : Nat, C i ++ [B false, Z ((F : Int) + ((0 : Nat) : Int) + (i : Int)), T (S i)] = C (i + 1) := by rw [hS]; exact hCs
 clear hS hcell hCs
 generalize (encOps os).1 = x at *
 generalize Tr.apply os t = t2 at *
 generalize g + 1 = g1 at *
 have hs1 : sizeT Tryz.prog 9 = 1 := by kernel_rfl
 refine SM_ Tryz.func47 (by kernel_rfl) rfl (Nat.le_of_ble_eq_true rfl) (Nat.le_succ 1) ?_
 show avc Tryz.prog SP _ _ _ _ _ _
 dsimp only [avc, startS, Array.toList, Tryz.f47]
 repeat' ((try conv => whnf) <;> first | refine Av.Va ?_ | refine ⟨_, _, _, c, ?_⟩ | refine ⟨_, _, _, c2, ?_⟩ | refine ⟨_, c3, ?_⟩ | refine ⟨_, c4, ?_⟩ | refine ⟨_, _, _, c5, ?_⟩ | refine ⟨_, c7, ?_⟩ | refine ⟨_, _, _, c9, ?_⟩ | refine ⟨[], [0,0,2,6,14,30,0,64,192,448,0,1024,3072,7168,15360,32767,65535,131071,131071,262143,1048575], Av.len_ok rfl (by kernel_rfl), ?_⟩ | refine ⟨[], [0,1,3,7,15,0,32,96,224,511,0,2047,0,8191], Av.len_ok rfl (by kernel_rfl), ?_⟩ | exact True.intro | refine Av.Vb ?_ | exact ⟨rfl, rfl, rfl⟩ | exact ⟨rfl, rfl⟩ | (refine Av.Vc ?_ ?_ <;> intro hBr <;> first | (exfalso; omega) | (exfalso; contradiction) | (exfalso; exact hBr rfl) | skip) | refine Av.Vd ?_ | exact rfl)
 refine ⟨[69, 68, 67, 0, 1, 9, 10], [], fun vs bl => ∃ (i m : Nat) (K : List AV), i ≤ k ∧ K = C i ∧ m = n0 + i ∧ (vs = [Z i, Z k, .sl 0 k, .ptr 1 0, .vs os.length (opC os), .ptr 2 0, .sl 0 k] ∧ bl = [⟨LC, some 9, true, true⟩, stB A L t g1 a1 z1 u1 0 none, ⟨[.sl 3 m], none, false, false⟩, ⟨K, some 174, false, true⟩]), muI k, ?_, ?_⟩
 ·exact ⟨0, _, _, by omega, hC0, rfl, rfl, rfl⟩
 clear c c2 c3 c4 c5 c7 c9 hC0
 rintro vs bl ⟨i, m, K, hi, hK, hm, rfl, rfl⟩
 have hKl : K.length = m * 3 := by rw [hK, hCl, hm]
 by_cases hik : i < k
 ·have hat : LC[mulS (i : Int).toNat (sizeT Tryz.prog 9) + 0]? = some (T (S i)) := by rw [hs1, mulS_eq, Nat.mul_one, Int.toNat_natCast]; exact hcell2 i hik
  have hdec : muI k [Z ((i : Int) + 1)] [] < muI k [Z i] [] := by show k - ((i : Int) + 1).toNat < k - (i : Int).toNat; omega
  have hst := hCs2 i
  rw [← hK] at hst
  have w2 := lwrite_app m K false hKl (by omega) ((F : Int) + ((0 : Nat) : Int) + (i : Int)) (S i)
  generalize S i = s at *
  clear hcell2 hCs2 hCl
  repeat' ((try conv => whnf) <;> first | refine Av.Va ?_ | (refine ⟨_, hat, ?_⟩) | refine ⟨_, c6, ?_⟩ | refine ⟨_, _, _, w2, ?_⟩ | refine ⟨[], [0,0,2,6,14,30,0,64,192,448,0,1024,3072,7168,15360,32767,65535,131071,131071,262143,1048575], Av.len_ok rfl (by kernel_rfl), ?_⟩ | refine ⟨[], [0,1,3,7,15,0,32,96,224,511,0,2047,0,8191], Av.len_ok rfl (by kernel_rfl), ?_⟩ | exact True.intro | refine Av.Vb ?_ | exact ⟨rfl, rfl, rfl⟩ | exact ⟨rfl, rfl⟩ | (refine Av.Vc ?_ ?_ <;> intro hBr <;> first | (exfalso; omega) | (exfalso; contradiction) | (exfalso; exact hBr rfl) | skip) | refine Av.Vd ?_ | exact rfl)
  exact ⟨⟨i + 1, _, _, by omega, hst, by omega, rfl, rfl⟩, hdec⟩
 ·obtain rfl : i = k := by omega
  have w1 := lsync_app m K false hKl (by omega)
  rw [← hK, show n0 + i + 1 = m + 1 by omega]
  clear hcell2 hCs2 hCl hK
  repeat' ((try conv => whnf) <;> first | refine Av.Va ?_ | refine ⟨_, _, _, w1, ?_⟩ | refine ⟨_, c8, ?_⟩ | refine ⟨[], [0,0,2,6,14,30,0,64,192,448,0,1024,3072,7168,15360,32767,65535,131071,131071,262143,1048575], Av.len_ok rfl (by kernel_rfl), ?_⟩ | refine ⟨[], [0,1,3,7,15,0,32,96,224,511,0,2047,0,8191], Av.len_ok rfl (by kernel_rfl), ?_⟩ | exact True.intro | refine Av.Vb ?_ | exact ⟨rfl, rfl, rfl⟩ | exact ⟨rfl, rfl⟩ | (refine Av.Vc ?_ ?_ <;> intro hBr <;> first | (exfalso; omega) | (exfalso; contradiction) | (exfalso; exact hBr rfl) | skip) | refine Av.Vd ?_ | exact rfl)
abbrev enc0 : List UInt8 := Shf.encB (Tr.nil).toL
theorem fit0 {A : Nat} (h1 : 1 ≤ A) (h2 : A ≤ 512) : Fit A .nil := by
 have hb : enc0.length = 4 := by rw [Shf.encB_len]; rfl
 exact ⟨Tr.good_nil, by unfold npc; rw [hb]; omega, h2⟩
def fmtD (A : Nat) : List Dd := layD A enc0 1 0 enc0.length (sumN enc0)
theorem format_ok {A Lg : Nat} (h : OkSh A Lg) (L2 : List Key) (w2 : Int) (hr : Dk.run ⟨.nil, newL (2 + 2 * A + Lg), [], 0⟩ (fmtD A) = ⟨.nil, L2, [], w2⟩) (hD : DdOk (2 + 2 * A + Lg) (fmtD A)) :
  SM 41 [shA A Lg] [] [] (.tup [.ptr 0 0, Z 0]) (dsk .nil L2 [] w2) := by
 have c1 := right_ok A Lg
 rw [decide_eq_true h] at c1
 have c2 := ssectors_ok A Lg
 rw [show sectN (A : Int) (Lg : Int) = ((2 + 2 * A + Lg : Nat) : Int) by unfold sectN; rw [if_pos h]; omega] at c2
 obtain ⟨h1, h2, h3, h4⟩ := h
 have c3 := dnew_ok (n := 2 + 2 * A + Lg) (by omega) (by omega)
 have c4 := zwS (stold_ok (fit0 (A := A) (by omega) (by omega)))
 have hb : enc0.length = 4 := by rw [Shf.encB_len]; rfl
 have hn : npc enc0 = 1 := by unfold npc; rw [hb]
 have c5 := llay_z A Lg 1 0 enc0.length (sumN enc0) (by omega) (by omega) (by omega) (by omega) (by omega) (sumN_lt _)
 have hl : (fmtD A).length = npc enc0 + 3 := layD_len _ _ _ _ _ _
 have hnl : (newL (2 + 2 * A + Lg)).length = 2 + 2 * A + Lg := newL_len _
 have c6 := perform_ok ⟨.nil, newL (2 + 2 * A + Lg), [], 0⟩ (fmtD A) false 0 ⟨rfl, rfl, Nat.le_refl _, Int.le_refl _⟩ (by rw [hnl]; exact hD) (by rw [hl, hn]; omega) (by rw [hl, hn]; show (0 : Int) + _ ≤ _; omega)
 rw [hr] at c6
 have c5 : SM 99 [.ptr 0 0, shA A Lg, zTr, rt ((1 : Nat) : Int) ((0 : Nat) : Int) (enc0.length : Int) (sumN enc0 : Int)] [ls0] [.ptr 0 0] (.tup []) [ls1 (fmtD A).length, ⟨ddC (fmtD A), some 174, false, true⟩] := by rw [hl]; exact c5
 have c6 : SM 58 [.ptr 0 0, .sl 1 (fmtD A).length] (dskR .nil (newL (2 + 2 * A + Lg)) [] 0 ⟨ddC (fmtD A), some 174, false, true⟩) [.ptr 0 0] (Z 0) (dsk .nil L2 [] w2) := c6
 clear hr hD hl hnl hn hb
 have c4 : SP 98 [zTr] (.tup [Z enc0.length, U32 (sumN enc0)]) := c4
 generalize ddC (fmtD A) = C at *
 generalize (fmtD A).length = n at *
 generalize enc0.length = z at *
 generalize sumN enc0 = u at *
 generalize 2 + 2 * A + Lg = N at *
 generalize newL N = L at *
 refine SM_ Tryz.func41 (by kernel_rfl) rfl (Nat.le_of_ble_eq_true rfl) (Nat.zero_le _) ?_
 show avc Tryz.prog SP _ _ _ _ _ _
 dsimp only [avc, startS, Array.toList, Tryz.f41]
 repeat' ((try conv => whnf) <;> first | refine Av.Va ?_ | refine ⟨_, c1, ?_⟩ | refine ⟨_, c2, ?_⟩ | refine ⟨_, _, _, c3, ?_⟩ | refine ⟨_, c4, ?_⟩ | refine ⟨_, _, _, c5, ?_⟩ | refine ⟨_, _, _, c6, ?_⟩ | exact True.intro | refine Av.Vb ?_ | exact ⟨rfl, rfl, rfl⟩ | exact ⟨rfl, rfl⟩ | (refine Av.Vc ?_ ?_ <;> intro hBr <;> first | (exfalso; omega) | (exfalso; contradiction) | (exfalso; exact hBr rfl) | skip) | refine Av.Vd ?_ | exact rfl)
section
variable (A Lg : Nat) (t : Tr) (g a z u pl : Nat) (L : List Key) (w : Int) (os : List OpP)
theorem do_yes (g2 a2 z2 u2 pl2 : Nat) (t2 : Tr) (n : Nat) (D : List Dd) (hn : n = D.length) (hg2 : 1 ≤ g2) (cp : SM 47 [.ptr 0 0, .vs os.length (opC os)] [stB A Lg t g a z u pl none] [.ptr 0 0] (.tup [.sl 1 n, Z 0]) [stB A Lg t g2 a2 z2 u2 pl2 (some t2), ddB D false])
  (L2 : List Key) (w2 : Int) (hr : Dk.run ⟨.nil, L, [], w⟩ D = ⟨.nil, L2, [], w2⟩) (hD : DdOk L.length D) (hl : D.length ≤ 999) (hw0 : 0 ≤ w) (hw : w + D.length ≤ 1000000) :
  SM 35 [.ptr 0 0, .ptr 1 0, .vs os.length (opC os)] (dskS .nil L [] w (stB A Lg t g a z u pl none)) [.ptr 0 0, .ptr 1 0] (Z 0) (dskS .nil L2 [] w2 (stB A Lg t2 g2 a2 z2 u2 pl2 none)) := by
 subst hn
 have c2 := perform_ok ⟨.nil, L, [], w⟩ D false 0 ⟨rfl, rfl, Nat.le_refl _, hw0⟩ hD (by omega) hw
 rw [hr] at c2
 have c3 := sapply_ok A Lg t g2 a2 z2 u2 pl2 hg2 t2
 have cp : SM 47 [.ptr 0 0, .vs os.length (opC os)] [stB A Lg t g a z u pl none] [.ptr 0 0] (.tup [.sl 1 D.length, Z 0]) [stB A Lg t g2 a2 z2 u2 pl2 (some t2), ⟨ddC D, some 174, false, true⟩] := cp
 have c2 : SM 58 [.ptr 0 0, .sl 1 D.length] (dskR .nil L [] w ⟨ddC D, some 174, false, true⟩) [.ptr 0 0] (Z 0) (dsk .nil L2 [] w2) := c2
 clear hr hD hl hw
 generalize ddC D = C at *
 generalize D.length = n at *
 refine SM_ Tryz.func35 (by kernel_rfl) rfl (Nat.le_of_ble_eq_true rfl) (show 2 ≤ 3 by omega) ?_
 show avc Tryz.prog SP _ _ _ _ _ _
 dsimp only [avc, startS, Array.toList, Tryz.f35]
 repeat' ((try conv => whnf) <;> first | refine Av.Va ?_ | refine ⟨_, _, _, cp, ?_⟩ | refine ⟨_, _, _, c2, ?_⟩ | refine ⟨_, _, _, c3, ?_⟩ | exact True.intro | refine Av.Vb ?_ | exact ⟨rfl, rfl, rfl⟩ | exact ⟨rfl, rfl⟩ | (refine Av.Vc ?_ ?_ <;> intro hBr <;> first | (exfalso; omega) | (exfalso; contradiction) | (exfalso; exact hBr rfl) | skip) | refine Av.Vd ?_ | exact rfl)
end
theorem rright_ok (A L : Int) : SP 30 [shI A L] (B (decide (OkSh A L))) := by
 by_cases h : OkSh A L
 ·rw [decide_eq_true h]
  obtain ⟨h1, h2, h3, h4⟩ := h
  have e : decide (L ≤ 256) = true := decide_eq_true h4
  refine S_ Tryz.func30 (by kernel_rfl) rfl (Nat.le_of_ble_eq_true rfl) ?_
  show avc Tryz.prog SP _ _ _ _ _ _
  dsimp only [avc, startS, Array.toList, Tryz.f30]
  repeat' ((try conv => whnf) <;> first | refine Av.Va ?_ | (exact congrArg (fun b => AV.ex (Value.bool b)) e) | exact True.intro | refine Av.Vb ?_ | exact ⟨rfl, rfl, rfl⟩ | exact ⟨rfl, rfl⟩ | (refine Av.Vc ?_ ?_ <;> intro hBr <;> first | (exfalso; omega) | (exfalso; contradiction) | (exfalso; exact hBr rfl) | skip) | refine Av.Vd ?_ | exact rfl)
 ·rw [decide_eq_false h]
  have h : A < 1 ∨ 1 ≤ A ∧ (512 < A ∨ A ≤ 512 ∧ (L < 32 ∨ 32 ≤ L ∧ ¬ L ≤ 256)) := by unfold OkSh at h; omega
  rcases h with h | ⟨h, h2 | ⟨h2, h3 | ⟨h3, h4⟩⟩⟩
  ·refine S_ Tryz.func30 (by kernel_rfl) rfl (Nat.le_of_ble_eq_true rfl) ?_ -- G
   repeat' ((try conv => whnf) <;> first | refine Av.Va ?_ | exact True.intro | refine Av.Vb ?_ | exact ⟨rfl, rfl, rfl⟩ | exact ⟨rfl, rfl⟩ | (refine Av.Vc ?_ ?_ <;> intro hBr <;> first | (exfalso; omega) | (exfalso; contradiction) | (exfalso; exact hBr rfl) | skip) | refine Av.Vd ?_ | exact rfl)
  ·refine S_ Tryz.func30 (by kernel_rfl) rfl (Nat.le_of_ble_eq_true rfl) ?_ -- G
   repeat' ((try conv => whnf) <;> first | refine Av.Va ?_ | exact True.intro | refine Av.Vb ?_ | exact ⟨rfl, rfl, rfl⟩ | exact ⟨rfl, rfl⟩ | (refine Av.Vc ?_ ?_ <;> intro hBr <;> first | (exfalso; omega) | (exfalso; contradiction) | (exfalso; exact hBr rfl) | skip) | refine Av.Vd ?_ | exact rfl)
  ·refine S_ Tryz.func30 (by kernel_rfl) rfl (Nat.le_of_ble_eq_true rfl) ?_ -- G
   repeat' ((try conv => whnf) <;> first | refine Av.Va ?_ | exact True.intro | refine Av.Vb ?_ | exact ⟨rfl, rfl, rfl⟩ | exact ⟨rfl, rfl⟩ | (refine Av.Vc ?_ ?_ <;> intro hBr <;> first | (exfalso; omega) | (exfalso; contradiction) | (exfalso; exact hBr rfl) | skip) | refine Av.Vd ?_ | exact rfl)
  ·have e : decide (L ≤ 256) = false := decide_eq_false h4
   refine S_ Tryz.func30 (by kernel_rfl) rfl (Nat.le_of_ble_eq_true rfl) ?_
   show avc Tryz.prog SP _ _ _ _ _ _
   dsimp only [avc, startS, Array.toList, Tryz.f30]
   repeat' ((try conv => whnf) <;> first | refine Av.Va ?_ | (exact congrArg (fun b => AV.ex (Value.bool b)) e) | exact True.intro | refine Av.Vb ?_ | exact ⟨rfl, rfl, rfl⟩ | exact ⟨rfl, rfl⟩ | (refine Av.Vc ?_ ?_ <;> intro hBr <;> first | (exfalso; omega) | (exfalso; contradiction) | (exfalso; exact hBr rfl) | skip) | refine Av.Vd ?_ | exact rfl)
theorem rsectors_ok (A L : Int) : SP 32 [shI A L] (Z (sectN A L)) := by
 have c := rright_ok A L
 unfold sectN
 by_cases h : OkSh A L
 ·rw [if_pos h]
  rw [decide_eq_true h] at c
  obtain ⟨h1, h2, h3, h4⟩ := h
  refine S_ Tryz.func32 (by kernel_rfl) rfl (Nat.le_of_ble_eq_true rfl) ?_
  show avc Tryz.prog SP _ _ _ _ _ _
  dsimp only [avc, startS, Array.toList, Tryz.f32]
  repeat' ((try conv => whnf) <;> first | refine Av.Va ?_ | refine ⟨_, c, ?_⟩ | exact True.intro | refine Av.Vb ?_ | exact ⟨rfl, rfl, rfl⟩ | exact ⟨rfl, rfl⟩ | (refine Av.Vc ?_ ?_ <;> intro hBr <;> first | (exfalso; omega) | (exfalso; contradiction) | (exfalso; exact hBr rfl) | skip) | refine Av.Vd ?_ | exact rfl)
 ·rw [if_neg h]
  rw [decide_eq_false h] at c
  refine S_ Tryz.func32 (by kernel_rfl) rfl (Nat.le_of_ble_eq_true rfl) ?_
  show avc Tryz.prog SP _ _ _ _ _ _
  dsimp only [avc, startS, Array.toList, Tryz.f32]
  repeat' ((try conv => whnf) <;> first | refine Av.Va ?_ | refine ⟨_, c, ?_⟩ | exact True.intro | refine Av.Vb ?_ | exact ⟨rfl, rfl, rfl⟩ | exact ⟨rfl, rfl⟩ | (refine Av.Vc ?_ ?_ <;> intro hBr <;> first | (exfalso; omega) | (exfalso; contradiction) | (exfalso; exact hBr rfl) | skip) | refine Av.Vd ?_ | exact rfl)
theorem rarea_ok {A L a : Nat} (ha : a ≤ 2) (hA : A ≤ 100000) : SP 100 [shA A L, Z a] (Z (areaA A a)) := by
 have h : areaA A a = 2 + a * A := rfl
 have h3 : (a : Int) * (A : Int) = ((a * A : Nat) : Int) := by rw [Int.natCast_mul]
 have h2 : a * A ≤ 200000 := Nat.le_trans (Nat.mul_le_mul ha hA) (by omega)
 have h4 : inR ((a : Int) * (A : Int)) := by rw [h3]; exact ⟨by omega, by omega⟩
 have h5 : inR (2 + (a : Int) * (A : Int)) := by rw [h3]; exact ⟨by omega, by omega⟩
 have h6 : ((areaA A a : Nat) : Int) = 2 + (a : Int) * (A : Int) := by rw [h, h3]; omega
 rw [h6]
 clear h h2 h3 h6
 refine S_ Tryz.func100 (by kernel_rfl) rfl (Nat.le_of_ble_eq_true rfl) ?_
 show avc Tryz.prog SP _ _ _ _ _ _
 dsimp only [avc, startS, Array.toList, Tryz.f100]
 repeat' ((try conv => whnf) <;> first | refine Av.Va ?_ | (refine And.intro h4 ?_) | (refine And.intro h5 ?_) | exact True.intro | refine Av.Vb ?_ | exact ⟨rfl, rfl, rfl⟩ | exact ⟨rfl, rfl⟩ | (refine Av.Vc ?_ ?_ <;> intro hBr <;> first | (exfalso; omega) | (exfalso; contradiction) | (exfalso; exact hBr rfl) | skip) | refine Av.Vd ?_ | exact rfl)
theorem rlog_ok {A L : Nat} (hA : A ≤ 100000) : SP 114 [shA A L] (Z (areaA A 2)) := by
 have h6 : ((areaA A 2 : Nat) : Int) = 2 + 2 * (A : Int) := by unfold areaA; omega
 rw [h6]
 refine S_ Tryz.func114 (by kernel_rfl) rfl (Nat.le_of_ble_eq_true rfl) ?_
 show avc Tryz.prog SP _ _ _ _ _ _
 dsimp only [avc, startS, Array.toList, Tryz.f114]
 repeat' ((try conv => whnf) <;> first | refine Av.Va ?_ | exact True.intro | refine Av.Vb ?_ | exact ⟨rfl, rfl, rfl⟩ | exact ⟨rfl, rfl⟩ | (refine Av.Vc ?_ ?_ <;> intro hBr <;> first | (exfalso; omega) | (exfalso; contradiction) | (exfalso; exact hBr rfl) | skip) | refine Av.Vd ?_ | exact rfl)
structure FitL (A : Nat) (l : List Pr) : Prop where
 fit : npc (Shf.encB l) ≤ A
 top : A ≤ 512
theorem FitL.bytes {A : Nat} {l : List Pr} (h : FitL A l) : 4 + bytesL l ≤ 24576 := by
 have h1 := h.fit
 have h2 := h.top
 unfold npc at h1
 rw [Shf.encB_len] at h1
 omega
theorem FitL.encl {A : Nat} {l : List Pr} (h : FitL A l) : (Shf.encB l).length ≤ 24576 := by rw [Shf.encB_len]; exact h.bytes
theorem short_of {l : List Pr} (h : bytesL l ≤ 65535) : Shf.Short l := fun x hx => by have := key_le hx; omega
theorem FitL.short {A : Nat} {l : List Pr} (h : FitL A l) : Shf.Short l := short_of (by have := h.bytes; omega)
theorem FitL.len {A : Nat} {l : List Pr} (h : FitL A l) : l.length ≤ 6144 := by have := h.bytes; have := bytesL_ge l; omega
theorem Fit.list {A : Nat} {t : Tr} (h : Fit A t) : FitL A t.toL := ⟨h.fit, h.top⟩
theorem rroot_gen (l : List Pr) (hl : l.length ≤ 1000000) (hs : Shf.Short l) (hb : (Shf.encB l).length ≤ 9223372036854775807) (g a : Int) : SP 102 [.vs l.length (prC l), U g, Z a] (rt g a (Shf.encB l).length (sumN (Shf.encB l))) := by
 have c1 := renc_ok l hl hs
 have c2 := rcrcsum_ok (Shf.encB l) hb
 have hz := bs_size (Shf.encB l)
 show SP _ _ (rt g a (Shf.encB l).length ((Crc.sum (Shf.encB l)).toNat))
 rw [← hz]
 clear hb
 generalize (Crc.sum (Shf.encB l)).toNat = u at *
 generalize Shf.encB l = X at *
 refine S_ Tryz.func102 (by kernel_rfl) rfl (Nat.le_of_ble_eq_true rfl) ?_
 show avc Tryz.prog SP _ _ _ _ _ _
 dsimp only [avc, startS, Array.toList, Tryz.f102]
 repeat' ((try conv => whnf) <;> first | refine Av.Va ?_ | refine ⟨_, c1, ?_⟩ | refine ⟨_, c2, ?_⟩ | exact True.intro | refine Av.Vb ?_ | exact ⟨rfl, rfl, rfl⟩ | exact ⟨rfl, rfl⟩ | (refine Av.Vc ?_ ?_ <;> intro hBr <;> first | (exfalso; omega) | (exfalso; contradiction) | (exfalso; exact hBr rfl) | skip) | refine Av.Vd ?_ | exact rfl)
theorem rfits18_ok {A L : Nat} {l : List Pr} (hl : l.length ≤ 1000000) (hb : bytesL l ≤ 1000000000000) : SP 106 [.vs l.length (prC l), shA A L] (B (decide (npc (Shf.encB l) ≤ A))) := by
 have c1 := rsize_ok l hl hb
 have c2 := rcount_ok (4 + (bytesL l : Int)) (by omega)
 have e : 4 + (bytesL l : Int) = ((Shf.encB l).length : Int) := by rw [Shf.encB_len]; omega
 rw [e, cnt_npc] at c2
 rw [e] at c1
 generalize npc (Shf.encB l) = n at *
 have e2 : decide ((n : Int) ≤ (A : Int)) = decide (n ≤ A) := decide_eq_decide.mpr (by omega)
 rw [← e2]
 clear e e2 hb
 refine S_ Tryz.func106 (by kernel_rfl) rfl (Nat.le_of_ble_eq_true rfl) ?_
 show avc Tryz.prog SP _ _ _ _ _ _
 dsimp only [avc, startS, Array.toList, Tryz.f106]
 repeat' ((try conv => whnf) <;> first | refine Av.Va ?_ | refine ⟨_, c1, ?_⟩ | refine ⟨_, c2, ?_⟩ | refine ⟨[], [0,1,3,0,8,31,63], Av.len_ok rfl (by kernel_rfl), ?_⟩ | exact True.intro | refine Av.Vb ?_ | exact ⟨rfl, rfl, rfl⟩ | exact ⟨rfl, rfl⟩ | (refine Av.Vc ?_ ?_ <;> intro hBr <;> first | (exfalso; omega) | (exfalso; contradiction) | (exfalso; exact hBr rfl) | skip) | refine Av.Vd ?_ | exact rfl)
abbrev stA (A L : Nat) (l : List Pr) (g a pl : Int) : AV := .agg [Z A, Z L, .vs l.length (prC l), U g, Z a, Z pl]
theorem room_rd {k : Nat} (hk : k ≤ 1000000) : room k (bytesT Tryz.prog 173) := by
 rw [show bytesT Tryz.prog 173 = 32 by kernel_rfl]; unfold room; omega
theorem hsRD : sizeT Tryz.prog 173 = 3 := by kernel_rfl
theorem one_rd (b : Bool) (i : Int) (s : List UInt8) : ([B b, Z i, T s] : List AV).length = 1 * sizeT Tryz.prog 173 ∧ ∀ u ∈ ([B b, Z i, T s] : List AV), one1 u = true := by
 rw [hsRD]; exact one_d b i s |>.imp (fun h => by rw [hsD] at h; exact h) id
theorem one_rd3 (i : Int) (s : List UInt8) : ([B true, Z 0, T [], B false, Z i, T s, B true, Z 0, T []] : List AV).length = 3 * sizeT Tryz.prog 173 ∧ ∀ u ∈ ([B true, Z 0, T [], B false, Z i, T s, B true, Z 0, T []] : List AV), one1 u = true := by
 rw [hsRD]
 refine ⟨rfl, fun u hu => ?_⟩
 simp only [List.mem_cons, List.not_mem_nil, or_false] at hu
 rcases hu with rfl | rfl | rfl | rfl | rfl | rfl | rfl | rfl | rfl <;> rfl
theorem ranew_ok {A : Nat} {l : List Pr} (hf : FitL A l) (L g a : Nat) (pl : Int) (hg : 1 ≤ g ∧ g < 1099511627776) (ha : a ≤ 1) :
  SP 95 [stA A L l g a pl] (.tup [.own 173 (npc (Shf.encB l) + 3) (ddC (layD A (Shf.encB l) (g + 1) (1 - a) (Shf.encB l).length (sumN (Shf.encB l)))), stA A L l ((g + 1 : Nat) : Int) (1 - (a : Int)) 0]) := by
 have hl := hf.len
 have hle := hf.encl
 have hN := hf.fit
 have hA := hf.top
 have e1 : (1 : Int) - (a : Int) = ((1 - a : Nat) : Int) := by omega
 have c1 := rroot_gen l (by omega) hf.short (by omega) ((g + 1 : Nat) : Int) (1 - (a : Int))
 have c2 := rslay_yes l (by omega) hf.short (g + 1) A (by omega) (by omega) ⟨by omega, by omega⟩ (by omega)
 have c3 := rarea_ok (A := A) (L := L) (a := 1 - a) (by omega) (by omega)
 have c4 := rrseal_ok (g := g + 1) (a := 1 - a) (z := (Shf.encB l).length) (u := sumN (Shf.encB l)) ⟨by omega, by omega, by omega, by omega, by omega⟩ (sumN_lt _)
 rw [← e1] at c3 c4
 have hw : IntKind.u64.wrap ((g : Int) + 1) = ((g + 1 : Nat) : Int) := by rw [wrap_u64 (by omega) (by omega)]; omega
 have hpos : 0 < npc (Shf.encB l) := by unfold npc; rw [Shf.encB_len]; omega
 have hfin : ddC (layD A (Shf.encB l) (g + 1) (1 - a) (Shf.encB l).length (sumN (Shf.encB l))) = ddC (shD A (1 - a) (g + 1) (Shf.encB l) (npc (Shf.encB l))) ++ [B true, Z 0, T [], B false, Z (((g + 1 : Nat) : Int) % 2), T (rootS (g + 1) (1 - a) (Shf.encB l).length (sumN (Shf.encB l))), B true, Z 0, T []] := by
  unfold layD endD; rw [ddC_app, show (((g + 1 : Nat) : Int) % 2) = (((g + 1) % 2 : Nat) : Int) by omega]; rfl
 rw [hfin]
 have hF : areaA A (1 - a) ≤ 1000 := by
  have : (1 - a) * A ≤ 1 * A := Nat.mul_le_mul (by omega) (Nat.le_refl _)
  unfold areaA; omega
 clear hfin hle
 generalize rootS (g + 1) (1 - a) (Shf.encB l).length (sumN (Shf.encB l)) = R at *
 generalize (Shf.encB l).length = z at *
 generalize sumN (Shf.encB l) = u at *
 generalize Shf.encB l = X at *
 obtain ⟨N, hNN⟩ : ∃ N, N = npc X := ⟨_, rfl⟩
 rw [← hNN] at hN hpos c2 ⊢
 obtain ⟨C, hC⟩ : ∃ C : Nat → List AV, C = fun i => ddC (shD A (1 - a) (g + 1) X i) := ⟨_, rfl⟩
 have hCl : ∀ i, (C i).length = i * 3 := fun i => by rw [hC]; simp only [ddC_len, shD_len]
 have hCs : ∀ i : Nat, C i ++ [B false, Z (((areaA A (1 - a) : Nat) : Int) + (i : Int)), T (sec (mkG (g + 1) i) (pc X i))] = C (i + 1) := fun i => by
  rw [hC]; simp only
  rw [shD_succ, ddC_app, show ((areaA A (1 - a) : Nat) : Int) + (i : Int) = ((areaA A (1 - a) + i : Nat) : Int) by omega]; rfl
 have hC0 : C 0 = [] := by rw [hC]; rfl
 have hCe : ddC (shD A (1 - a) (g + 1) X N) = C N := by rw [hC]
 rw [hCe]
 have hcell : ∀ i, i < N → (secs (g + 1) X N)[i]? = some (T (sec (mkG (g + 1) i) (pc X i))) := fun i hi => by simp [secs, hi]
 obtain ⟨S, hS⟩ : ∃ S : Nat → Key, S = fun i => sec (mkG (g + 1) i) (pc X i) := ⟨_, rfl⟩
 have hcell2 : ∀ i, i < N → (secs (g + 1) X N)[i]? = some (T (S i)) := by rw [hS]; exact hcell
 have hCs2 : ∀ i : Nat, C i ++ [B false, Z (((areaA A (1 - a) : Nat) : Int) + (i : Int)), T (S i)] = C (i + 1) := by rw [hS]; exact hCs
 clear hC hCe hS hcell hCs hNN hf
 generalize areaA A (1 - a) = F at *
 generalize secs (g + 1) X N = LC at *
 have hg2 : 0 ≤ ((g + 1 : Nat) : Int) ∧ ((g + 1 : Nat) : Int) < 18446744073709551616 := by omega
 generalize g + 1 = g1 at *
 have hs1 : sizeT Tryz.prog 9 = 1 := by kernel_rfl
 refine S_ Tryz.func95 (by kernel_rfl) rfl (Nat.le_of_ble_eq_true rfl) ?_
 show avc Tryz.prog SP _ _ _ _ _ _
 dsimp only [avc, startS, Array.toList, Tryz.f95]
 repeat' ((try conv => whnf) <;> first | refine Av.Va ?_ | refine ⟨_, c1, ?_⟩ | refine ⟨_, c2, ?_⟩ | (refine ⟨_, hw, ?_⟩) | refine ⟨[], [0,0,2,0,8,30,0,126,0,0,768,1792,4094,8190,16383,32767], Av.len_ok rfl (by kernel_rfl), ?_⟩ | refine ⟨[], [0,0,2,0,8,0,32,0,128,510,1,2047], Av.len_ok rfl (by kernel_rfl), ?_⟩ | exact True.intro | refine Av.Vb ?_ | exact ⟨rfl, rfl, rfl⟩ | exact ⟨rfl, rfl⟩ | (refine Av.Vc ?_ ?_ <;> intro hBr <;> first | (exfalso; omega) | (exfalso; contradiction) | (exfalso; exact hBr rfl) | skip) | refine Av.Vd ?_ | exact rfl)
 refine ⟨[8, 6, 5, 1, 3, 4], [(5, some 173)], fun vs bl => ∃ (i : Nat) (K : List AV), i ≤ N ∧ K = C i ∧ (vs = [Z i, .sl 0 N, .sl 1 i, .ptr 2 0, .ptr 3 0, .ptr 4 0] ∧ bl = [⟨LC, some 9, true, true⟩, ⟨K, some 173, false, true⟩, ⟨[Z A, Z L, .vs l.length (prC l), U g, Z a, Z pl], none, false, true⟩, ⟨[Z 0, Z 0, nilA, U 0, Z 0, Z 0], none, false, true⟩, ⟨[U g1, Z (1 - (a : Int)), Z z, U32 u], none, false, true⟩]), muI N, ?_, ?_⟩
 ·exact ⟨0, _, by omega, hC0.symm, rfl, rfl⟩
 clear c1 c2 hC0
 rintro vs bl ⟨i, K, hi, hK, rfl, rfl⟩
 have hKl : K.length = i * sizeT Tryz.prog 173 := by rw [hK, hCl, hsRD]
 by_cases hik : i < N
 ·have hat : LC[mulS (i : Int).toNat (sizeT Tryz.prog 9)]? = some (T (S i)) := by rw [hs1, mulS_eq, Nat.mul_one, Int.toNat_natCast]; exact hcell2 i hik
  have hdec : muI N [Z ((i : Int) + 1)] [] < muI N [Z i] [] := by show N - ((i : Int) + 1).toNat < N - (i : Int).toNat; omega
  have hst := hCs2 i
  rw [← hK] at hst
  have ho := one_rd false ((F : Int) + (i : Int)) (S i)
  generalize S i = s at *
  clear hcell2 hCs2 hCl c4 hK
  repeat' ((try conv => whnf) <;> first | refine Av.Va ?_ | refine ⟨_, c3, ?_⟩ | (refine ⟨_, hat, ?_⟩) | (refine ⟨true, ?_⟩) | (refine And.intro ⟨room_rd (by omega), hKl, ho⟩ ?_) | refine ⟨[], [0,0,2,0,8,30,0,126,0,0,768,1792,4094,8190,16383,32767], Av.len_ok rfl (by kernel_rfl), ?_⟩ | refine ⟨[], [0,0,2,0,8,0,32,0,128,510,1,2047], Av.len_ok rfl (by kernel_rfl), ?_⟩ | exact True.intro | refine Av.Vb ?_ | exact ⟨rfl, rfl, rfl⟩ | exact ⟨rfl, rfl⟩ | (refine Av.Vc ?_ ?_ <;> intro hBr <;> first | (exfalso; omega) | (exfalso; contradiction) | (exfalso; exact hBr rfl) | skip) | refine Av.Vd ?_ | exact rfl)
  exact ⟨⟨i + 1, _, by omega, hst, rfl, rfl⟩, hdec⟩
 ·obtain rfl : i = N := by omega
  have ho := one_rd3 ((g1 : Int) % 2) R
  rw [← hK]
  clear hcell2 hCs2 hCl hK c3
  repeat' ((try conv => whnf) <;> first | refine Av.Va ?_ | refine ⟨_, c4, ?_⟩ | (refine ⟨true, ?_⟩) | (refine And.intro ⟨room_rd (by omega), hKl, ho⟩ ?_) | refine ⟨[], [0,0,2,0,8,30,0,126,0,0,768,1792,4094,8190,16383,32767], Av.len_ok rfl (by kernel_rfl), ?_⟩ | refine ⟨[], [0,0,2,0,8,0,32,0,128,510,1,2047], Av.len_ok rfl (by kernel_rfl), ?_⟩ | exact True.intro | refine Av.Vb ?_ | exact ⟨rfl, rfl, rfl⟩ | exact ⟨rfl, rfl⟩ | (refine Av.Vc ?_ ?_ <;> intro hBr <;> first | (exfalso; omega) | (exfalso; contradiction) | (exfalso; exact hBr rfl) | skip) | refine Av.Vd ?_ | exact rfl)
end Go.Proofs.YtbaedepmogkkeaaGreat.Av
