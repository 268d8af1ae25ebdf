/- What the claim stands on, Fu38: contracts of functions and plain facts. No conditions. -/
import Derived.Test.YtbaedepmogkkeaaGreatFu37
import Derived.Test.YtbaedepmogkkeaaGreatFu22
namespace Go.Proofs.YtbaedepmogkkeaaGreat.Av
open Go Go.RowKit Tre
set_option linter.unusedVariables false
set_option linter.unusedSimpArgs false
def kK (i : Nat) : Key := [107, UInt8.ofNat (i / 100), UInt8.ofNat (i % 100)]
abbrev kX : Key := [107, 120, 120]
abbrev vK (v : Nat) : Key := List.replicate v 0
def grown (v n : Nat) : List Pr := (List.range n).map fun i => (kK i, vK v)
theorem kK_lt {i j : Nat} (h : i < j) (hj : j < 500) : lt (kK i) (kK j) = true := by
 unfold kK
 rw [lt_cons]
 refine .inr ⟨rfl, ?_⟩
 rw [lt_cons]
 have a1 : (UInt8.ofNat (i / 100)).toNat = i / 100 := by rw [UInt8.toNat_ofNat']; omega
 have a2 : (UInt8.ofNat (j / 100)).toNat = j / 100 := by rw [UInt8.toNat_ofNat']; omega
 have a3 : (UInt8.ofNat (i % 100)).toNat = i % 100 := by rw [UInt8.toNat_ofNat']; omega
 have a4 : (UInt8.ofNat (j % 100)).toNat = j % 100 := by rw [UInt8.toNat_ofNat']; omega
 rw [a1, a2]
 by_cases e : i / 100 < j / 100
 ·exact .inl e
 ·have e2 : i / 100 = j / 100 := by omega
  refine .inr ⟨by rw [e2], ?_⟩
  rw [lt_cons, a3, a4]
  exact .inl (by omega)
theorem kK_X {i : Nat} (h : i < 500) : lt (kK i) kX = true := by
 unfold kK
 rw [lt_cons]
 refine .inr ⟨rfl, ?_⟩
 rw [lt_cons]
 have a1 : (UInt8.ofNat (i / 100)).toNat = i / 100 := by rw [UInt8.toNat_ofNat']; omega
 rw [a1]
 exact .inl (by show i / 100 < 120; omega)
theorem putL_end {k v : Key} : ∀ {l : List Pr}, (∀ p ∈ l, lt p.1 k = true) → putL k v l = l ++ [(k, v)]
 | [], _ => rfl
 | (a, b) :: l, h => by
  unfold putL
  rw [if_pos (h (a, b) (List.mem_cons_self ..)), putL_end fun p hp => h p (List.mem_cons_of_mem _ hp)]; rfl
theorem grown_mem {v n : Nat} {p : Pr} (h : p ∈ grown v n) : ∃ i, i < n ∧ p = (kK i, vK v) := by
 unfold grown at h
 obtain ⟨i, hi, rfl⟩ := List.mem_map.1 h
 exact ⟨i, List.mem_range.1 hi, rfl⟩
theorem grown_succ (v n : Nat) : grown v (n + 1) = grown v n ++ [(kK n, vK v)] := by
 unfold grown; rw [List.range_succ, List.map_append]; rfl
theorem grown_len (v n : Nat) : (grown v n).length = n := by simp [grown]
theorem bytes_same {k : Nat} : ∀ {l : List Pr}, (∀ p ∈ l, p.1.length + p.2.length = k) → bytesL l = l.length * (4 + k)
 | [], _ => by simp [bytesL]
 | (a, b) :: l, h => by
  have h1 := h (a, b) (List.mem_cons_self ..)
  have h2 := bytes_same fun p hp => h p (List.mem_cons_of_mem _ hp)
  simp only at h1
  unfold bytesL
  rw [h2, List.length_cons, Nat.add_mul]; omega
theorem grown_each {v n : Nat} : ∀ p ∈ grown v n, p.1.length + p.2.length = 3 + v := fun p hp => by
 obtain ⟨i, _, rfl⟩ := grown_mem hp
 show (kK i).length + (vK v).length = _
 rw [List.length_replicate]; rfl
theorem npc_le {X : List UInt8} {A : Nat} (h1 : 1 ≤ A) : npc X ≤ A ↔ X.length ≤ 48 * A := by
 unfold npc
 omega
theorem put_grown {v n : Nat} (h : n < 500) : applyL [(1, kK n, vK v)] (grown v n) = grown v (n + 1) := by
 show putL (kK n) (vK v) (grown v n) = _
 rw [grown_succ]
 exact putL_end fun p hp => by
  obtain ⟨i, hi, rfl⟩ := grown_mem hp
  exact kK_lt hi h
theorem put_X {v n : Nat} (h : n ≤ 500) : applyL [(1, kX, vK v)] (grown v n) = grown v n ++ [(kX, vK v)] := by
 show putL kX (vK v) (grown v n) = _
 exact putL_end fun p hp => by
  obtain ⟨i, hi, rfl⟩ := grown_mem hp
  exact kK_X (by omega)
def lessL (v n k : Nat) : List Pr := delL (kK k) (grown v n)
theorem less_mem {v n k : Nat} {p : Pr} (h : p ∈ lessL v n k) : p ∈ grown v n := (List.mem_filter.1 h).1
theorem less_len {v n k : Nat} (hn : n ≤ 500) (hk : k < n) : (lessL v n k).length = n - 1 := by
 have : ∀ m, m ≤ n → (lessL v m k).length = if k < m then m - 1 else m := by
  intro m
  induction m with
  | zero => intro _; rfl
  | succ m ih =>
   intro hm
   have ih := ih (by omega)
   have e : lessL v (m + 1) k = lessL v m k ++ (if m = k then [] else [(kK m, vK v)]) := by
    unfold lessL delL
    rw [grown_succ, List.filter_append]
    congr 1
    by_cases e : m = k
    ·subst e; simp
    ·rw [if_neg e]
     have : kK m ≠ kK k := by
      rcases Nat.lt_or_gt_of_ne e with h | h
      ·exact lt_ne (kK_lt h (by omega))
      ·exact (lt_ne (kK_lt h (by omega))).symm
     simp [this]
   rw [e, List.length_append, ih]
   by_cases e1 : m = k
   ·subst e1; simp
   ·rw [if_neg e1]
    by_cases e2 : k < m
    ·rw [if_pos e2, if_pos (by omega)]; simp; omega
    ·rw [if_neg e2, if_neg (by omega)]; simp
 have := this n (Nat.le_refl _)
 rw [if_pos hk] at this; exact this
theorem del_grown (v n k : Nat) : applyL [(2, kK k, [])] (grown v n) = lessL v n k := rfl
theorem put_less {v n k : Nat} (h : n ≤ 500) : applyL [(1, kX, vK v)] (lessL v n k) = lessL v n k ++ [(kX, vK v)] := by
 show putL kX (vK v) (lessL v n k) = _
 exact putL_end fun p hp => by
  obtain ⟨i, hi, rfl⟩ := grown_mem (less_mem hp)
  exact kK_X (by omega)
theorem encOne {k v : Key} (hk : k.length = 3) (hv : v.length ≤ 200) : (encOps [(1, k, v)]).2 = 0 := by
 have hc : checkL [(1, k, v)] = 0 := by
  unfold checkL
  rw [if_neg (by simp)]
  have : checkP (1, k, v) = 0 := by
   unfold checkP
   rw [if_neg (by simp), if_neg (by simp only; omega), if_neg]
   simp only
   have : k ≠ [] := fun e => by rw [e] at hk; simp at hk
   simp [this]
  unfold firstE
  rw [if_pos this]; rfl
 unfold encOps
 rw [hc, if_neg (by decide), if_neg]
 simp [sizeL, sizeO, hk]; omega
theorem encDel {k : Key} (hk : k.length = 3) : (encOps [(2, k, [])]).2 = 0 := by
 have hc : checkL [(2, k, [])] = 0 := by
  unfold checkL
  rw [if_neg (by simp)]
  have : checkP (2, k, []) = 0 := by
   unfold checkP
   rw [if_neg (by simp), if_neg (by simp only [List.length_nil]; omega), if_neg]
   simp only
   have : k ≠ [] := fun e => by rw [e] at hk; simp at hk
   simp [this]
  unfold firstE
  rw [if_pos this]; rfl
 unfold encOps
 rw [hc, if_neg (by decide), if_neg]
 simp [sizeL, sizeO, hk]
theorem fits_by {A v m : Nat} {l : List Pr} {os : List OpP} (h1 : 1 ≤ A) (ho : os.length ≠ 0) (he : (encOps os).2 = 0) (hm : (applyL os l).length = m) (hp : ∀ p ∈ applyL os l, p.1.length + p.2.length = 3 + v) :
  fitsE A l os = if 4 + m * (7 + v) ≤ 48 * A then 0 else 7 := by
 unfold fitsE
 rw [if_neg ho, if_neg (by rw [he]; simp)]
 have hb := bytes_same hp
 have : npc (Shf.encB (applyL os l)) ≤ A ↔ 4 + m * (7 + v) ≤ 48 * A := by
  rw [npc_le h1, Shf.encB_len, hb, hm, show 4 + (3 + v) = 7 + v by omega]
 by_cases h : 4 + m * (7 + v) ≤ 48 * A
 ·rw [if_pos (this.2 h), if_pos h]
 ·rw [if_neg (fun x => h (this.1 x)), if_neg h]
theorem most_eq {A v m : Nat} (h1 : 1 ≤ A) : 4 + m * (7 + v) ≤ 48 * A ↔ m ≤ (A * 48 - 4) / (7 + v) := by
 rw [Nat.le_div_iff_mul_le (by omega)]
 omega
end Go.Proofs.YtbaedepmogkkeaaGreat.Av
namespace Go.Proofs.YtbaedepmogkkeaaGreat.Av
open Go Go.RowKit Tre
set_option linter.unusedVariables false
set_option linter.unusedSimpArgs false
set_option maxRecDepth 100000
set_option maxHeartbeats 4000000
theorem put18_ok (k v : Key) : SP 36 [T k, T v] (.vs 1 (opC [(1, k, v)])) := by
 refine S_ Tryz.func36 (by kernel_rfl) rfl (Nat.le_of_ble_eq_true rfl) ?_
 show avc Tryz.prog SP _ _ _ _ _ _
 dsimp only [avc, startS, Array.toList, Tryz.f36]
 repeat' ((try conv => whnf) <;> first | refine Av.Va ?_ | (refine ⟨true, ?_⟩) | exact True.intro | refine Av.Vb ?_ | exact ⟨rfl, rfl, rfl⟩ | exact ⟨rfl, rfl⟩ | (refine Av.Vc ?_ ?_ <;> intro hBr <;> first | (exfalso; omega) | (exfalso; contradiction) | (exfalso; exact hBr rfl) | skip) | refine Av.Vd ?_ | exact rfl)
def FullI (A v i : Nat) (L : List Key) (w : Int) (R : Tr) (g a z u pl : Nat) : Prop :=
 ∃ l0 xs, RunI A 32 L g a l0 (grown v i) xs pl ∧ Fit A R ∧ R.toL = grown v i ∧ g ≤ 2 + i ∧ 0 ≤ w ∧ w ≤ 10 + 900 * i
theorem sfull_walk (area size seed : Nat) (h1 : area < 256) (h2 : size < 256) (h3 : seed < 256) (A v : Nat) (hA : A = 1 + area % 40) (hv : v = 1 + size % 200) : SP 5 [.ex (.int .u8 area), .ex (.int .u8 size), .ex (.int .u8 seed)] (B true) := by
 have hsh : OkSh ((A : Nat) : Int) ((32 : Nat) : Int) := by unfold OkSh; omega
 obtain ⟨L0, w0, R0, z0, u0, hrun, hR0, hRl0, hw0, cb⟩ := begun_ok hsh
 have aw := awake18_ok
 have hrem : (area : Int) % 40 = ((area % 40 : Nat) : Int) := by omega
 have cb : SM 34 [.ex (.agg #[.int .i64 (1 + ((area % 40 : Nat) : Int)), .int .i64 32])] [] [] (.tup [.ptr 0 0, .ptr 1 0]) (dskR .nil L0 [] w0 (stB A 32 R0 2 1 z0 u0 0 none)) := by
  have : (A : Int) = 1 + ((area % 40 : Nat) : Int) := by omega
  rw [← this]; exact cb
 refine S_ Tryz.func5 (by kernel_rfl) rfl (Nat.le_of_ble_eq_true rfl) ?_
 show avc Tryz.prog SP _ _ _ _ _ _
 dsimp only [avc, startS, Array.toList, Tryz.f5]
 have hm : (0 : Int) ≤ 1 + (size : Int) % 200 ∧ 1 + (size : Int) % 200 ≤ 1 + (size : Int) % 200 ∧ room (1 + (size : Int) % 200).toNat (bytesT Tryz.prog 5) := ⟨by omega, by omega, by rw [show bytesT Tryz.prog 5 = 1 by kernel_rfl]; unfold room; omega⟩
 have hc : zeroL (AV.ex (.int .u8 0)).cells (1 + (size : Int) % 200).toNat = bytesA (vK v) ∧ (1 + (size : Int) % 200).toNat = (vK v).length := by
  have e : (1 + (size : Int) % 200).toNat = v := by omega
  rw [e]
  refine ⟨?_, by rw [List.length_replicate]⟩
  have : ∀ n, zeroL (AV.ex (.int .u8 0)).cells n = bytesA (List.replicate n 0) := fun n => by
   induction n with
   | zero => rfl
   | succ n ih => show [AV.ex (.int .u8 0)] ++ zeroL _ n = _; rw [ih, List.replicate_succ]; rfl
  exact this v
 repeat' ((try conv => whnf) <;> first | refine Av.Va ?_ | refine ⟨_, _, _, cb, ?_⟩ | (refine And.intro hm ?_) | (refine ⟨vK v, hc, ?_⟩) | exact True.intro | refine Av.Vb ?_ | exact ⟨rfl, rfl, rfl⟩ | exact ⟨rfl, rfl⟩ | (refine Av.Vc ?_ ?_ <;> intro hBr <;> first | (exfalso; omega) | (exfalso; contradiction) | (exfalso; exact hBr rfl) | skip) | refine Av.Vd ?_ | exact rfl)
 refine ⟨[11, 9, 8, 10, 7, 2], [], fun vs bl => ∃ (i : Nat) (L : List Key) (w : Int) (R : Tr) (g a z u pl : Nat), i ≤ 500 ∧ FullI A v i L w R g a z u pl ∧ (vs = [Z i, .ptr 0 0, .ptr 1 0, T (vK v), .ptr 2 0, .ex (.int .u8 seed)] ∧ bl = [stB A 32 R g a z u pl none, headN 3 L.length nilA w, ⟨[Z (1 + (area : Int) % 40), Z 32], none, false, true⟩, secB L]), muI 500, ?_, ?_⟩
 ·exact ⟨0, L0, w0, R0, 2, 1, z0, u0, 0, by omega, ⟨[], [], hrun, hR0, hRl0, by omega, hw0.1, by omega⟩, rfl, rfl⟩
 rintro vs bl ⟨i, L, w, R, g, a, z, u, pl, hi, ⟨l0, xs, hr, hR, hRl, hg, hwa, hwb⟩, rfl, rfl⟩
 by_cases hlt : i < 500
 ·have hd := do_step hr hR hRl z u (by omega) [(1, kK i, vK v)] ⟨by simp, fun o ho => by rw [List.mem_singleton] at ho; subst ho; exact ⟨by show 3 ≤ 150; omega, by show (vK v).length ≤ 1000; rw [List.length_replicate]; omega⟩⟩ hwa (by omega)
  have cput := put18_ok (kK i) (vK v)
  have hkc : ([AV.ex (.int .u8 107), AV.ex (.int .u8 ((i : Int) / 100)), AV.ex (.int .u8 ((i : Int) % 100))] : List AV) = bytesA (kK i) ∧ 3 = (kK i).length := by
   refine ⟨?_, rfl⟩
   have a1 : (UInt8.ofNat (i / 100)).toNat = i / 100 := by rw [UInt8.toNat_ofNat']; omega
   have a2 : (UInt8.ofNat (i % 100)).toNat = i % 100 := by rw [UInt8.toNat_ofNat']; omega
   show _ = [AV.ex (.int .u8 ((107 : UInt8).toNat : Nat)), AV.ex (.int .u8 ((UInt8.ofNat (i / 100)).toNat : Nat)), AV.ex (.int .u8 ((UInt8.ofNat (i % 100)).toNat : Nat))]
   rw [a1, a2]; rfl
  have hfe := fits_by (A := A) (v := v) (m := i + 1) (l := grown v i) (os := [(1, kK i, vK v)]) (by omega) (by simp) (encOne rfl (by rw [List.length_replicate]; omega)) (by rw [put_grown hlt, grown_len]) (by rw [put_grown hlt]; exact grown_each)
  rw [put_grown hlt] at hd
  have hdec : muI 500 [Z ((i : Int) + 1)] [] < muI 500 [Z (i : Int)] [] := by show 500 - ((i : Int) + 1).toNat < 500 - (i : Int).toNat; omega
  generalize fitsE A (grown v i) [(1, kK i, vK v)] = fe at hd hfe
  rcases hd with ⟨hne, cd⟩ | ⟨rfl, L2, g2, a2, l2, xs2, pl2, z2, u2, w2, ⟨hw1, hw2⟩, ⟨hg1, hg2⟩, hll, hr2, hf2, ht2, cd⟩
  ·obtain rfl : fe = 7 := by rw [hfe] at hne ⊢; split at hne; · exact absurd rfl hne
                             · rename_i h; rw [if_neg h]
   clear cb hrun hR0 hRl0 hdec
   have hno : ¬ 4 + (i + 1) * (7 + v) ≤ 48 * A := fun h => by rw [if_pos h] at hfe; cases hfe
   have hfit := hR.fit
   rw [hRl, npc_le (by omega), Shf.encB_len, bytes_same grown_each, grown_len, show 4 + (3 + v) = 7 + v by omega] at hfit
   have hq : ((1 + (area : Int) % 40) * 48 - 4) / (7 + (1 + (size : Int) % 200)) = i := by
    have e1 : (1 + (area : Int) % 40) * 48 - 4 = ((A * 48 - 4 : Nat) : Int) := by omega
    have e2 : 7 + (1 + (size : Int) % 200) = ((7 + v : Nat) : Int) := by omega
    rw [e1, e2, ← Int.natCast_ediv]
    congr 1
    have m1 := (most_eq (v := v) (m := i) (A := A) (by omega)).1 hfit
    have m2 : ¬ i + 1 ≤ (A * 48 - 4) / (7 + v) := fun h => hno ((most_eq (by omega)).2 h)
    omega
   have hvs : ((bs (vK v)).size : Int) = 1 + (size : Int) % 200 := by rw [bs_size, List.length_replicate]; omega
   rw [← hvs] at hq
   have ct := stree_ok A 32 R g a z u pl none hr.dev.gg.1
   have cl := len_ok_ R
   have hcn : R.cn = (i : Int) := by rw [Tr.cn_len, hRl, grown_len]
   rw [hcn] at cl
   have cd : SM 35 [.ptr 0 0, .ptr 1 0, .vs 1 (opC [(1, kK i, vK v)])] [stB A 32 R g a z u pl none, headN 2 L.length nilA w, secB L] [.ptr 0 0, .ptr 1 0] (Z 7) [stB A 32 R g a z u pl none, headN 2 L.length nilA w, secB L] := cd
   by_cases hi0 : i = 0
   ·have hi0 : (i : Int) = 0 := by omega
    generalize opC [(1, kK i, vK v)] = C at *
    repeat' ((try conv => whnf) <;> first | refine Av.Va ?_ | (refine ⟨true, ?_⟩) | (refine ⟨kK i, hkc, ?_⟩) | refine ⟨_, cput, ?_⟩ | refine ⟨_, _, _, cd, ?_⟩ | refine ⟨_, _, _, ct, ?_⟩ | refine ⟨_, cl, ?_⟩ | refine ⟨_, aw, ?_⟩ | exact True.intro | refine Av.Vb ?_ | exact ⟨rfl, rfl, rfl⟩ | exact ⟨rfl, rfl⟩ | (refine Av.Vc ?_ ?_ <;> intro hBr <;> first | (exfalso; omega) | (exfalso; contradiction) | (exfalso; exact hBr rfl) | skip) | refine Av.Vd ?_ | exact rfl)
   ·have hip : 0 < i := by omega
    obtain ⟨k, hk⟩ : ∃ k, k = seed % i := ⟨_, rfl⟩
    have hkl : k < i := by rw [hk]; exact Nat.mod_lt _ hip
    have hki : (seed : Int) % (i : Int) = (k : Int) := by rw [hk]; rfl
    have few : ∀ key : Key, key.length = 3 → FewO [(1, key, vK v)] := fun key h => ⟨by simp, fun o ho => by rw [List.mem_singleton] at ho; subst ho; exact ⟨by show key.length ≤ 150; omega, by show (vK v).length ≤ 1000; rw [List.length_replicate]; omega⟩⟩
    have fewD : FewO [(2, kK k, [])] := ⟨by simp, fun o ho => by rw [List.mem_singleton] at ho; subst ho; exact ⟨by show 3 ≤ 150; omega, by show 0 ≤ 1000; omega⟩⟩
    have hvl : (vK v).length ≤ 200 := by rw [List.length_replicate]; omega
    have eachX : ∀ l : List Pr, (∀ p ∈ l, p ∈ grown v i) → ∀ p ∈ l ++ [(kX, vK v)], p.1.length + p.2.length = 3 + v := fun l hl p hp => by
     rcases List.mem_append.1 hp with hp | hp
     ·exact grown_each p (hl p hp)
     ·rw [List.mem_singleton] at hp; subst hp; show 3 + (vK v).length = _; rw [List.length_replicate]
    have fX := fits_by (A := A) (v := v) (m := i + 1) (l := grown v i) (os := [(1, kX, vK v)]) (by omega) (by simp) (encOne rfl hvl) (by rw [put_X (by omega), List.length_append, grown_len]; rfl) (by rw [put_X (by omega)]; exact eachX _ fun p h => h)
    rw [if_neg hno] at fX
    have fD := fits_by (A := A) (v := v) (m := i - 1) (l := grown v i) (os := [(2, kK k, [])]) (by omega) (by simp) (encDel rfl) (by rw [del_grown, less_len (by omega) hkl]) (by rw [del_grown]; exact fun p hp => grown_each p (less_mem hp))
    have hless : 4 + (i - 1) * (7 + v) ≤ 48 * A := Nat.le_trans (Nat.add_le_add_left (Nat.mul_le_mul_right _ (by omega)) 4) hfit
    rw [if_pos hless] at fD
    have fY := fits_by (A := A) (v := v) (m := i) (l := lessL v i k) (os := [(1, kX, vK v)]) (by omega) (by simp) (encOne rfl hvl) (by rw [put_less (by omega), List.length_append, less_len (by omega) hkl]; show i - 1 + 1 = i; omega) (by rw [put_less (by omega)]; exact eachX _ fun p h => less_mem h)
    rw [if_pos hfit] at fY
    have dX := do_step hr hR hRl z u (by omega) [(1, kX, vK v)] (few _ rfl) hwa (by omega)
    rw [fX] at dX
    obtain ⟨_, cX⟩ := dX.resolve_right fun h => absurd h.1 (by decide)
    have dD := do_step hr hR hRl z u (by omega) [(2, kK k, [])] fewD hwa (by omega)
    rw [fD, del_grown] at dD
    rcases dD with ⟨h0, _⟩ | ⟨_, L2, g2, a2, l2, xs2, pl2, z2, u2, w2, ⟨hw1, hw2⟩, ⟨hg1, hg2⟩, hll, hr2, hf2, ht2, cD⟩
    ·exact absurd rfl h0
    have dY := do_step hr2 hf2 ht2 z2 u2 (by omega) [(1, kX, vK v)] (few _ rfl) (w := w2) (by omega) (by omega)
    rw [fY, put_less (by omega)] at dY
    rcases dY with ⟨h0, _⟩ | ⟨_, L3, g3, a3, l3, xs3, pl3, z3, u3, w3, _, _, hll3, hr3, hf3, ht3, cY⟩
    ·exact absurd rfl h0
    have ct3 := stree_ok A 32 (Tr.apply [(1, kX, vK v)] (Tr.apply [(2, kK k, [])] R)) g3 a3 z3 u3 pl3 none hr3.dev.gg.1
    have cl3 := len_ok_ (Tr.apply [(1, kX, vK v)] (Tr.apply [(2, kK k, [])] R))
    have hcn3 : (Tr.apply [(1, kX, vK v)] (Tr.apply [(2, kK k, [])] R)).cn = (i : Int) := by rw [Tr.cn_len, ht3, List.length_append, less_len (by omega) hkl]; show ((i - 1 + 1 : Nat) : Int) = _; omega
    rw [hcn3] at cl3
    have cX : SM 35 [.ptr 0 0, .ptr 1 0, .vs 1 (opC [(1, kX, vK v)])] [stB A 32 R g a z u pl none, headN 2 L.length nilA w, secB L] [.ptr 0 0, .ptr 1 0] (Z 7) [stB A 32 R g a z u pl none, headN 2 L.length nilA w, secB L] := cX
    have cD := do_sl rfl 82 true cD
    have cY : SM 35 [.ptr 0 0, .ptr 1 0, .vs 1 (opC [(1, kX, vK v)])] [stB A 32 (Tr.apply [(2, kK k, [])] R) g2 a2 z2 u2 pl2 none, headN 2 L2.length nilA w2, secB L2] [.ptr 0 0, .ptr 1 0] (Z 0) [stB A 32 (Tr.apply [(1, kX, vK v)] (Tr.apply [(2, kK k, [])] R)) g3 a3 z3 u3 pl3 none, headN 2 L3.length nilA w3, secB L3] := cY
    have cputX := put18_ok kX (vK v)
    have hkc2 : ([AV.ex (.int .u8 107), AV.ex (.int .u8 ((k : Int) / 100)), AV.ex (.int .u8 ((k : Int) % 100))] : List AV) = bytesA (kK k) ∧ 3 = (kK k).length := by
     refine ⟨?_, rfl⟩
     have a1 : (UInt8.ofNat (k / 100)).toNat = k / 100 := by rw [UInt8.toNat_ofNat']; omega
     have a2 : (UInt8.ofNat (k % 100)).toNat = k % 100 := by rw [UInt8.toNat_ofNat']; omega
     show _ = [AV.ex (.int .u8 ((107 : UInt8).toNat : Nat)), AV.ex (.int .u8 ((UInt8.ofNat (k / 100)).toNat : Nat)), AV.ex (.int .u8 ((UInt8.ofNat (k % 100)).toNat : Nat))]
     rw [a1, a2]; rfl
    rw [← hki] at hkc2
    have hkb : 0 ≤ (seed : Int) % (i : Int) ∧ (seed : Int) % (i : Int) < 500 := by omega
    clear hfit hno hless fX fD fY eachX few fewD
    repeat' ((try conv => whnf) <;> first | refine Av.Va ?_ | (refine ⟨true, ?_⟩) | (refine ⟨kK i, hkc, ?_⟩) | refine ⟨_, cput, ?_⟩ | refine ⟨_, _, _, cd, ?_⟩ | refine ⟨_, _, _, ct, ?_⟩ | refine ⟨_, cl, ?_⟩ | exact True.intro | refine Av.Vb ?_ | exact ⟨rfl, rfl, rfl⟩ | exact ⟨rfl, rfl⟩ | (refine Av.Vc ?_ ?_ <;> intro hBr <;> first | (exfalso; omega) | (exfalso; contradiction) | (exfalso; exact hBr rfl) | skip) | refine Av.Vd ?_ | exact rfl)
    dsimp only [List.length_cons, List.length_nil, Nat.reduceAdd, Nat.add_eq]
    repeat' ((try conv => whnf) <;> first | refine Av.Va ?_ | (refine ⟨true, ?_⟩) | (refine ⟨kK k, hkc2, ?_⟩) | refine ⟨_, cputX, ?_⟩ | refine ⟨_, _, _, cX, ?_⟩ | exact True.intro | refine Av.Vb ?_ | exact ⟨rfl, rfl, rfl⟩ | exact ⟨rfl, rfl⟩ | (refine Av.Vc ?_ ?_ <;> intro hBr <;> first | (exfalso; omega) | (exfalso; contradiction) | (exfalso; exact hBr rfl) | skip) | refine Av.Vd ?_ | exact rfl)
    dsimp only [List.length_cons, List.length_nil, Nat.reduceAdd, Nat.add_eq]
    repeat' ((try conv => whnf) <;> first | refine Av.Va ?_ | (refine ⟨true, ?_⟩) | refine ⟨_, _, _, cD, ?_⟩ | refine ⟨_, cputX, ?_⟩ | exact True.intro | refine Av.Vb ?_ | exact ⟨rfl, rfl, rfl⟩ | exact ⟨rfl, rfl⟩ | (refine Av.Vc ?_ ?_ <;> intro hBr <;> first | (exfalso; omega) | (exfalso; contradiction) | (exfalso; exact hBr rfl) | skip) | refine Av.Vd ?_ | exact rfl)
    dsimp only [List.length_cons, List.length_nil, Nat.reduceAdd, Nat.add_eq]
    repeat' ((try conv => whnf) <;> first | refine Av.Va ?_ | refine ⟨_, _, _, cY, ?_⟩ | refine ⟨_, _, _, ct3, ?_⟩ | refine ⟨_, cl3, ?_⟩ | refine ⟨_, aw, ?_⟩ | exact True.intro | refine Av.Vb ?_ | exact ⟨rfl, rfl, rfl⟩ | exact ⟨rfl, rfl⟩ | (refine Av.Vc ?_ ?_ <;> intro hBr <;> first | (exfalso; omega) | (exfalso; contradiction) | (exfalso; exact hBr rfl) | skip) | refine Av.Vd ?_ | exact rfl)
  ·clear cb hrun hR0 hRl0
   have cd : SM 35 [.ptr 0 0, .ptr 1 0, .vs 1 (opC [(1, kK i, vK v)])] [stB A 32 R g a z u pl none, headN 2 L.length nilA w, secB L] [.ptr 0 0, .ptr 1 0] (Z 0) [stB A 32 (Tr.apply [(1, kK i, vK v)] R) g2 a2 z2 u2 pl2 none, headN 2 L2.length nilA w2, secB L2] := cd
   generalize Tr.apply [(1, kK i, vK v)] R = R2 at *
   generalize opC [(1, kK i, vK v)] = C at *
   repeat' ((try conv => whnf) <;> first | refine Av.Va ?_ | (refine ⟨true, ?_⟩) | (refine ⟨kK i, hkc, ?_⟩) | refine ⟨_, cput, ?_⟩ | refine ⟨_, _, _, cd, ?_⟩ | exact True.intro | refine Av.Vb ?_ | exact ⟨rfl, rfl, rfl⟩ | exact ⟨rfl, rfl⟩ | (refine Av.Vc ?_ ?_ <;> intro hBr <;> first | (exfalso; omega) | (exfalso; contradiction) | (exfalso; exact hBr rfl) | skip) | refine Av.Vd ?_ | exact rfl)
   exact ⟨⟨i + 1, L2, w2, R2, g2, a2, z2, u2, pl2, by omega, ⟨l2, xs2, hr2, hf2, ht2, by omega, by omega, by omega⟩, rfl, rfl⟩, hdec⟩
 ·obtain rfl : i = 500 := by omega
  have ct := stree_ok A 32 R g a z u pl none hr.dev.gg.1
  have cl := len_ok_ R
  have hcn : R.cn = 500 := by rw [Tr.cn_len, hRl, grown_len]; rfl
  rw [hcn] at cl
  have hvs : ((bs (vK v)).size : Int) = 1 + (size : Int) % 200 := by rw [bs_size, List.length_replicate]; omega
  have hfit := hR.fit
  rw [hRl, npc_le (by omega), Shf.encB_len, bytes_same grown_each, grown_len] at hfit
  clear cb hrun hR0 hRl0
  repeat' ((try conv => whnf) <;> first | refine Av.Va ?_ | refine ⟨_, _, _, ct, ?_⟩ | refine ⟨_, cl, ?_⟩ | refine ⟨_, aw, ?_⟩ | exact True.intro | refine Av.Vb ?_ | exact ⟨rfl, rfl, rfl⟩ | exact ⟨rfl, rfl⟩ | (refine Av.Vc ?_ ?_ <;> intro hBr <;> first | (exfalso; omega) | (exfalso; contradiction) | (exfalso; exact hBr rfl) | skip) | refine Av.Vd ?_ | exact rfl)
end Go.Proofs.YtbaedepmogkkeaaGreat.Av
namespace Go.Proofs.YtbaedepmogkkeaaGreat.Av
set_option linter.unusedSimpArgs false
open Go Go.RowKit Tre
set_option linter.unusedVariables false
theorem storeFull_walk (a b c : UInt8) (w : World) :
  Calls Tryz.prog 5 #[.int .u8 (a.toNat : Int), .int .u8 (b.toNat : Int), .int .u8 (c.toNat : Int)] w fun e w' => e = .returned (.bool true) ∧ Below w.heap.size w w' := by
 refine calls_at (avs := [.ex (.int .u8 a.toNat), .ex (.int .u8 b.toNat), .ex (.int .u8 c.toNat)]) (sfull_walk a.toNat b.toNat c.toNat a.toNat_lt b.toNat_lt c.toNat_lt _ _ rfl rfl) w (fun _ _ => False) (fun _ _ h => h.elim) _ rfl fun j hj => ?_
 match j, hj with
 | 0, _ => exact .ex _ _
 | 1, _ => exact .ex _ _
 | 2, _ => exact .ex _ _
end Go.Proofs.YtbaedepmogkkeaaGreat.Av
