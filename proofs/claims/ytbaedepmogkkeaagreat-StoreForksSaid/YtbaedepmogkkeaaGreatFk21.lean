/- What the claim stands on, Fk21: contracts of functions and plain facts. No conditions. -/
import Derived.Test.YtbaedepmogkkeaaGreatFk20
import Derived.Laws.BitsAllLaws
namespace Go.Proofs.YtbaedepmogkkeaaGreat.Av
open Go Go.RowKit
set_option linter.unusedVariables false
set_option linter.unusedSimpArgs false
set_option maxRecDepth 100000
set_option maxHeartbeats 1000000
structure Plan where
 keep : Nat
 torn : Int
 cut : Int
def bitOf (k i : Nat) : Bool := decide (k / 2 ^ i % 2 = 1)
def clampI (cut : Int) : Int := if (if 64 < cut then 64 else cut) > 0 then (if 64 < cut then 64 else cut) else 0
def frontI (p : Plan) (i : Nat) : Int := if (i : Int) = p.torn then clampI p.cut else if i < 64 then (if bitOf p.keep i = true then 64 else 0) else 0
theorem clampI_in (c : Int) : 0 ≤ clampI c ∧ clampI c ≤ 64 := by
 unfold clampI
 split <;> split <;> omega
theorem frontI_in (p : Plan) (i : Nat) : 0 ≤ frontI p i ∧ frontI p i ≤ 64 := by
 unfold frontI
 split
 ·exact clampI_in _
 ·split
  ·split <;> omega
  ·omega
def ovl (n : Nat) (t s : Key) : Key := t.take n ++ s.drop n
def fN (p : Plan) (i : Nat) : Nat := (frontI p i).toNat
def keepL (p : Plan) : Nat → List Wr → List Key → List Key
 | _, [], L => L
 | i, x :: P, L => keepL p (i + 1) P (L.set x.1 (ovl (fN p i) x.2.1 (L[x.1]?.getD [])))
theorem keepL_len (p : Plan) : ∀ (P : List Wr) (i : Nat) (L : List Key), (keepL p i P L).length = L.length
 | [], _, _ => rfl
 | x :: P, i, L => by rw [keepL, keepL_len p P, List.length_set]
def Sec (L : List Key) : Prop := ∀ s ∈ L, s.length = 64
def WrOk (P : List Wr) (n : Nat) : Prop := ∀ x ∈ P, x.1 < n ∧ x.2.1.length = 64 ∧ x.2.2.length = 64
theorem Sec.set {L : List Key} (h : Sec L) {a : Nat} {s : Key} (hs : s.length = 64) : Sec (L.set a s) := fun x hx => by
 rcases List.mem_or_eq_of_mem_set hx with h1 | h1
 ·exact h x h1
 ·rw [h1]; exact hs
abbrev headN (a n : Nat) (p : AV) (w : Int) : ABlk := ⟨[B true, .sl a n, p, Z w], none, false, false⟩
def pdV (q : Pd) (id : Nat) (P : List Wr) : AV := match q with
 | .nil => nilA
 | .row _ => .sl id P.length
 | .sh => .vf P.length (wrC P)
def pdB (q : Pd) (P : List Wr) : List ABlk := match q with
 | .row fz => [penB P fz]
 | _ => []
def secN (q : Pd) : Nat := match q with
 | .row _ => 4
 | _ => 3
def dsk2 (q : Pd) (L : List Key) (P : List Wr) (w : Int) (q' : Pd) (L' : List Key) (P' : List Wr) (w' : Int) : List ABlk :=
 [headN 2 L.length (pdV q 3 P) w, headN (secN q) L'.length (pdV q' (secN q + 1) P') w', secB L] ++ pdB q P ++ [secB L'] ++ pdB q' P'
def Pd.left : Pd → Pd
 | .row _ => .row true
 | q => q
def Pd.right : Pd → Pd
 | .nil => .nil
 | _ => .sh
theorem take_full {cs : List AV} {n : Nat} (h : cs.length = n) : takeL cs 0 n = cs := by unfold takeL; rw [List.drop_zero, List.take_of_length_le (by omega)]
theorem dfork_ok (q : Pd) (L : List Key) (P : List Wr) (w : Int) (hq : PdOk q P) (hP : P.length ≤ 1000000) (hL : L.length ≤ 1000000) : SM 57 [.ptr 0 0] (dsk q L P w) [.ptr 0 0] (.ptr 1 0) (dsk2 q.left L P w q.right L P w) := by
 have c := dok_ok q L P w
 have hl : (L.map T).length = L.length * sizeT Tryz.prog 9 := by rw [hsS, List.length_map, Nat.mul_one]
 have h1 : ∀ v ∈ L.map T, one1 v = true := fun v hv => by obtain ⟨x, _, rfl⟩ := List.mem_map.1 hv; rfl
 have hr : room L.length (bytesT Tryz.prog 9) := room_s (by omega)
 have ht : takeL (wrC P) 0 (mulS (P.length : Int).toNat (sizeT Tryz.prog 166)) = wrC P := take_full (by rw [hsW, mulS_eq, Int.toNat_natCast, wrC_len])
 have hc : (0 : Int) ≤ (P.length : Int) ∧ (P.length : Int) = (P.length : Int) ∧ (P.length : Int) ≤ (P.length : Int) ∧ P.length * sizeT Tryz.prog 166 ≤ (wrC P).length := ⟨by omega, rfl, by omega, by rw [hsW, wrC_len]; omega⟩
 cases q with
 | nil =>
  have hq : P = [] := hq
  subst hq
  refine SM_ Tryz.func57 (by kernel_rfl) rfl (Nat.le_of_ble_eq_true rfl) (Nat.le_refl 1) ?_
  show avc Tryz.prog SP _ _ _ _ _ _
  dsimp only [avc, startS, Array.toList, Tryz.f57]
  repeat' ((try conv => whnf) <;> first | refine Av.Va ?_ | refine ⟨_, _, _, c, ?_⟩ | (refine And.intro ⟨hr, hl, h1⟩ ?_) | exact True.intro | refine Av.Vb ?_ | exact ⟨rfl, rfl, rfl⟩ | exact ⟨rfl, rfl⟩ | (refine Av.Vc ?_ ?_ <;> intro hBr <;> first | (exfalso; omega) | (exfalso; contradiction) | (exfalso; exact hBr rfl) | skip) | refine Av.Vd ?_ | exact rfl)
 | row fz =>
  have e : dsk2 (Pd.left (.row fz)) L P w (Pd.right (.row fz)) L P w = [headN 2 L.length (.sl 3 P.length) w, headN 4 L.length (.vf P.length (takeL (wrC P) 0 (mulS (P.length : Int).toNat (sizeT Tryz.prog 166)))) w, secB L, penB P true, secB L] := by rw [ht]; rfl
  rw [e]
  clear ht e
  cases fz
  all_goals
   refine SM_ Tryz.func57 (by kernel_rfl) rfl (Nat.le_of_ble_eq_true rfl) (Nat.le_refl 1) ?_
   show avc Tryz.prog SP _ _ _ _ _ _
   dsimp only [avc, startS, Array.toList, Tryz.f57]
   repeat' ((try conv => whnf) <;> first | refine Av.Va ?_ | refine ⟨_, _, _, c, ?_⟩ | (refine And.intro ⟨hr, hl, h1⟩ ?_) | (refine And.intro hc ?_) | exact True.intro | refine Av.Vb ?_ | exact ⟨rfl, rfl, rfl⟩ | exact ⟨rfl, rfl⟩ | (refine Av.Vc ?_ ?_ <;> intro hBr <;> first | (exfalso; omega) | (exfalso; contradiction) | (exfalso; exact hBr rfl) | skip) | refine Av.Vd ?_ | exact rfl)
 | sh =>
  have e : dsk2 (Pd.left .sh) L P w (Pd.right .sh) L P w = [headN 2 L.length (.vf P.length (wrC P)) w, headN 3 L.length (.vf P.length (takeL (wrC P) 0 (mulS (P.length : Int).toNat (sizeT Tryz.prog 166)))) w, secB L, secB L] := by rw [ht]; rfl
  rw [e]
  clear ht e
  refine SM_ Tryz.func57 (by kernel_rfl) rfl (Nat.le_of_ble_eq_true rfl) (Nat.le_refl 1) ?_
  show avc Tryz.prog SP _ _ _ _ _ _
  dsimp only [avc, startS, Array.toList, Tryz.f57]
  repeat' ((try conv => whnf) <;> first | refine Av.Va ?_ | refine ⟨_, _, _, c, ?_⟩ | (refine And.intro ⟨hr, hl, h1⟩ ?_) | (refine And.intro hc ?_) | exact True.intro | refine Av.Vb ?_ | exact ⟨rfl, rfl, rfl⟩ | exact ⟨rfl, rfl⟩ | (refine Av.Vc ?_ ?_ <;> intro hBr <;> first | (exfalso; omega) | (exfalso; contradiction) | (exfalso; exact hBr rfl) | skip) | refine Av.Vd ?_ | exact rfl)
def zK : Key := List.replicate 64 0
theorem zK_cells : zeroL (AV.ex (.int .u8 0)).cells 64 = bytesA zK := by kernel_rfl
theorem blank_ok : SP 90 [] (T zK) := by
 refine S_ Tryz.func90 (by kernel_rfl) rfl (Nat.le_of_ble_eq_true rfl) ?_
 show avc Tryz.prog SP _ _ _ _ _ _
 dsimp only [avc, startS, Array.toList, Tryz.f90]
 repeat' ((try conv => whnf) <;> first | refine Av.Va ?_ | (refine And.intro ⟨by decide, by decide, by show room 64 (bytesT Tryz.prog 5); rw [show bytesT Tryz.prog 5 = 1 by kernel_rfl]; unfold room; omega⟩ ?_) | (refine ⟨zK, ⟨zK_cells, rfl⟩, ?_⟩) | exact True.intro | refine Av.Vb ?_ | exact ⟨rfl, rfl, rfl⟩ | exact ⟨rfl, rfl⟩ | (refine Av.Vc ?_ ?_ <;> intro hBr <;> first | (exfalso; omega) | (exfalso; contradiction) | (exfalso; exact hBr rfl) | skip) | refine Av.Vd ?_ | exact rfl)
theorem zK_len : zK.length = 64 := by kernel_rfl
end Go.Proofs.YtbaedepmogkkeaaGreat.Av
namespace Go.Proofs.YtbaedepmogkkeaaGreat.Av
open Go Go.RowKit
set_option linter.unusedVariables false
set_option linter.unusedSimpArgs false
def newL (n : Nat) : List Key := List.replicate n zK
theorem newL_len (n : Nat) : (newL n).length = n := List.length_replicate
theorem newL_sec (n : Nat) : Sec (newL n) := fun s hs => by rw [(List.mem_replicate.1 hs).2]; exact zK_len
end Go.Proofs.YtbaedepmogkkeaaGreat.Av
namespace Go.Proofs.YtbaedepmogkkeaaGreat.Av
open Go Go.RowKit
set_option linter.unusedVariables false
set_option linter.unusedSimpArgs false
set_option maxRecDepth 100000
set_option maxHeartbeats 8000000
abbrev muJ (n : Nat) : List AV → List ABlk → Nat := fun vs _ => match vs with
 | .ex (.int _ i) :: _ => n - i.toNat
 | _ => 0
def partL (i n : Nat) : List Key := List.replicate i zK ++ List.replicate (n - i) []
theorem partL_len {i n : Nat} (h : i ≤ n) : (partL i n).length = n := by unfold partL; simp; omega
theorem partL_set {i n : Nat} (h : i < n) : (partL i n).set i zK = partL (i + 1) n := by
 unfold partL
 obtain ⟨k, rfl⟩ : ∃ k, n = i + 1 + k := ⟨n - (i + 1), by omega⟩
 rw [show i + 1 + k - i = k + 1 by omega, show i + 1 + k - (i + 1) = k by omega, List.replicate_succ (n := k)]
 rw [List.set_append_right _ _ (by simp), List.length_replicate, Nat.sub_self, List.set_cons_zero]
 rw [List.replicate_succ' (n := i), List.append_assoc]; rfl
theorem partL_all (n : Nat) : partL n n = newL n := by unfold partL newL; simp
theorem zeroL_T (n : Nat) : zeroL (AV.ex (.string ByteArray.empty)).cells n = (partL 0 n).map T := by
 unfold partL
 rw [List.replicate_zero, List.nil_append, Nat.sub_zero, List.map_replicate]
 induction n with
 | zero => rfl
 | succ n ih => rw [List.replicate_succ, ← ih]; rfl
theorem dnew_ok {n : Nat} (h1 : 1 ≤ n) (h2 : n ≤ 4096) : SM 22 [Z n] [] [] (.tup [.ptr 0 0, Z 0]) (dsk .nil (newL n) [] 0) := by
 have hr : room n (bytesT Tryz.prog 9) := room_s (by omega)
 have hz := zeroL_T n
 have cb := blank_ok
 have e : dsk .nil (newL n) [] 0 = [headB n nilA 0, ⟨(newL n).map T, some 9, false, true⟩] := by
  show [headB (newL n).length _ _, _] = _
  rw [newL_len]
 rw [e]
 have hs := fun i (hi : i < n) => secSet (partL i n) i zK
 have hidx := fun i (hi : i < n) => secIdx (L := partL i n) (a := i) (by rw [partL_len (by omega)]; exact hi)
 have hn := fun i (hi : i < n) => partL_set hi
 have hl := partL_all n
 refine SM_ Tryz.func22 (by kernel_rfl) rfl (Nat.le_of_ble_eq_true rfl) (Nat.zero_le _) ?_
 show avc Tryz.prog SP _ _ _ _ _ _
 dsimp only [avc, startS, Array.toList, Tryz.f22]
 repeat' ((try conv => whnf) <;> first | refine Av.Va ?_ | (refine And.intro ⟨by omega, by omega, hr⟩ ?_) | refine ⟨[], [0,1,3,7,0,0,63,127], Av.len_ok rfl (by kernel_rfl), ?_⟩ | exact True.intro | refine Av.Vb ?_ | exact ⟨rfl, rfl, rfl⟩ | exact ⟨rfl, rfl⟩ | (refine Av.Vc ?_ ?_ <;> intro hBr <;> first | (exfalso; omega) | (exfalso; contradiction) | (exfalso; exact hBr rfl) | skip) | refine Av.Vd ?_ | exact rfl)
 refine ⟨[21, 20, 4], [], fun vs bl => ∃ (i : Nat) (C : List AV), i ≤ n ∧ C = (partL i n).map T ∧ (vs = [Z i, Z n, .ptr 0 0] ∧ bl = [headB n nilA 0, ⟨C, some 9, false, true⟩]), muJ n, ?_, ?_⟩
 ·exact ⟨0, _, by omega, hz, rfl, rfl⟩
 rintro vs bl ⟨i, C, hi, hC, rfl, rfl⟩
 by_cases hlt : i < n
 ·have hs := hs i hlt
  have hidx := hidx i hlt
  have hn := hn i hlt
  rw [hn] at hs
  rw [← hC] at hs hidx
  have hdec : n - ((i : Int) + 1).toNat < n - (i : Int).toNat := by omega
  clear hz hC hl hn e
  generalize zK = z at cb hs
  repeat' ((try conv => whnf) <;> first | refine Av.Va ?_ | refine ⟨_, cb, ?_⟩ | (refine And.intro hidx ?_) | refine ⟨[], [0,1,3,7,0,0,63,127], Av.len_ok rfl (by kernel_rfl), ?_⟩ | exact True.intro | refine Av.Vb ?_ | exact ⟨rfl, rfl, rfl⟩ | exact ⟨rfl, rfl⟩ | (refine Av.Vc ?_ ?_ <;> intro hBr <;> first | (exfalso; omega) | (exfalso; contradiction) | (exfalso; exact hBr rfl) | skip) | refine Av.Vd ?_ | exact rfl)
  exact ⟨⟨i + 1, _, by omega, hs, rfl, rfl⟩, hdec⟩
 ·obtain rfl : i = n := by omega
  rw [hl] at hC
  rw [← hC]
  clear hC e hz hn hs hidx
  repeat' ((try conv => whnf) <;> first | refine Av.Va ?_ | refine ⟨[], [0,1,3,7,0,0,63,127], Av.len_ok rfl (by kernel_rfl), ?_⟩ | exact True.intro | refine Av.Vb ?_ | exact ⟨rfl, rfl, rfl⟩ | exact ⟨rfl, rfl⟩ | (refine Av.Vc ?_ ?_ <;> intro hBr <;> first | (exfalso; omega) | (exfalso; contradiction) | (exfalso; exact hBr rfl) | skip) | refine Av.Vd ?_ | exact rfl)
abbrev muJ3 (n : Nat) : List AV → List ABlk → Nat := fun vs _ => match vs with
 | _ :: _ :: .ex (.int _ i) :: _ => n - i.toNat
 | _ => 0
theorem dsame_raw (r : Bool) (k : Nat) (L : List Key) (w : Int) (L' : List Key) (w' : Int) (hL : L.length ≤ 1000000) (hl : L.length = L'.length)
  (heq : ∀ i (h : i < L.length) (h' : i < L'.length), i < k → L[i] = L'[i]) (hk : (k = L.length ∧ r = true) ∨ ∃ (h : k < L.length) (h' : k < L'.length), L[k] ≠ L'[k] ∧ r = false)
  (c1 : ∀ q L P w, SM 91 [.ptr 0 0] (dsk q L P w) [.ptr 0 0] (B true) (dsk q L P w)) :
  SM 59 [.ptr 0 0, .ptr 1 0] (dsk2 .nil L [] w .nil L' [] w') [.ptr 0 0, .ptr 1 0] (B r) (dsk2 .nil L [] w .nil L' [] w') := by
 have c2 := c1 .nil L' [] w'
 have c1 := c1 .nil L [] w
 have hkl : k ≤ L.length := by rcases hk with h | ⟨h, _⟩ <;> omega
 have hat := fun i (h : i < L.length) => secAt h
 have hat' := fun i (h : i < L'.length) => secAt h
 have hmu : ∀ i : Nat, i < L.length → L.length - ((i : Int) + 1).toNat < L.length - (i : Int).toNat := fun i h => by omega
 obtain ⟨SB, hSB⟩ : ∃ SB, SB = dsk2 .nil L [] w .nil L' [] w' := ⟨_, rfl⟩
 ·refine SM_ Tryz.func59 (by kernel_rfl) rfl (Nat.le_of_ble_eq_true rfl) (Nat.le_refl 2) ?_ -- G
  repeat' ((try conv => whnf) <;> first | refine Av.Va ?_ | refine ⟨_, _, _, c1, ?_⟩ | refine ⟨_, _, _, c2, ?_⟩ | refine ⟨[], [0,1,3,7,15,31,63,127,255,511,1023,2047,4095,8191,511,16895,49663,115199,246271,524287,1048575], Av.len_ok rfl (by kernel_rfl), ?_⟩ | exact True.intro | refine Av.Vb ?_ | exact ⟨rfl, rfl, rfl⟩ | exact ⟨rfl, rfl⟩ | (refine Av.Vc ?_ ?_ <;> intro hBr <;> first | (exfalso; omega) | (exfalso; contradiction) | (exfalso; exact hBr rfl) | skip) | refine Av.Vd ?_ | exact rfl)
  refine ⟨[0, 1, 33, 32, 31], [], fun vs bl => ∃ i : Nat, i ≤ k ∧ (vs = [.ptr 0 0, .ptr 1 0, Z i, Z L.length, .sl 2 L.length] ∧ bl = SB), muJ3 L.length, ?_, ?_⟩
  ·exact ⟨0, by omega, rfl, hSB.symm⟩
  rintro vs bl ⟨i, hi, rfl, rfl⟩
  subst hSB
  by_cases hlt : i < L.length
  ·have hlt' : i < L'.length := by omega
   have h1 := hat i hlt
   have h2 := hat' i hlt'
   have hd := hmu i hlt
   by_cases hik : i < k
   ·have he := (heq i hlt hlt' hik).symm
    generalize L[i] = a at h1 he
    generalize L'[i] = b at h2 he
    clear heq hk hat hat' hmu c1 c2
    repeat' ((try conv => whnf) <;> first | refine Av.Va ?_ | (refine ⟨_, h1, ?_⟩) | (refine ⟨_, h2, ?_⟩) | refine ⟨[], [0,1,3,7,15,31,63,127,255,511,1023,2047,4095,8191,511,16895,49663,115199,246271,524287,1048575], Av.len_ok rfl (by kernel_rfl), ?_⟩ | exact True.intro | refine Av.Vb ?_ | exact ⟨rfl, rfl, rfl⟩ | exact ⟨rfl, rfl⟩ | (refine Av.Vc ?_ ?_ <;> intro hBr <;> first | (exfalso; omega) | (exfalso; contradiction) | (exfalso; exact hBr rfl) | skip) | refine Av.Vd ?_ | exact rfl)
    exact ⟨⟨i + 1, by omega, rfl, rfl⟩, hd⟩
   ·obtain rfl : i = k := by omega
    obtain ⟨hn, rfl⟩ : L[i] ≠ L'[i] ∧ r = false := by
     rcases hk with h | ⟨h, h', h3⟩
     ·omega
     ·exact h3
    have hn : ¬ L'[i] = L[i] := fun e => hn e.symm
    generalize L[i] = a at h1 hn
    generalize L'[i] = b at h2 hn
    clear heq hk hat hat' hmu c1 c2
    repeat' ((try conv => whnf) <;> first | refine Av.Va ?_ | (refine ⟨_, h1, ?_⟩) | (refine ⟨_, h2, ?_⟩) | refine ⟨[], [0,1,3,7,15,31,63,127,255,511,1023,2047,4095,8191,511,16895,49663,115199,246271,524287,1048575], Av.len_ok rfl (by kernel_rfl), ?_⟩ | exact True.intro | refine Av.Vb ?_ | exact ⟨rfl, rfl, rfl⟩ | exact ⟨rfl, rfl⟩ | (refine Av.Vc ?_ ?_ <;> intro hBr <;> first | (exfalso; omega) | (exfalso; contradiction) | (exfalso; exact hBr rfl) | skip) | refine Av.Vd ?_ | exact rfl)
  ·obtain rfl : i = L.length := by omega
   obtain rfl : r = true := by
    rcases hk with h | ⟨h, _⟩
    ·exact h.2
    ·omega
   clear heq hk hat hat' hmu c1 c2
   repeat' ((try conv => whnf) <;> first | refine Av.Va ?_ | refine ⟨[], [0,1,3,7,15,31,63,127,255,511,1023,2047,4095,8191,511,16895,49663,115199,246271,524287,1048575], Av.len_ok rfl (by kernel_rfl), ?_⟩ | exact True.intro | refine Av.Vb ?_ | exact ⟨rfl, rfl, rfl⟩ | exact ⟨rfl, rfl⟩ | (refine Av.Vc ?_ ?_ <;> intro hBr <;> first | (exfalso; omega) | (exfalso; contradiction) | (exfalso; exact hBr rfl) | skip) | refine Av.Vd ?_ | exact rfl)
theorem first_part : ∀ (a b : List Key), a.length = b.length → ∃ k, (∀ i (h : i < a.length) (h' : i < b.length), i < k → a[i] = b[i]) ∧ ((k = a.length ∧ decide (a = b) = true) ∨ ∃ (h : k < a.length) (h' : k < b.length), a[k] ≠ b[k] ∧ decide (a = b) = false)
 | [], [], _ => ⟨0, fun i h => by simp at h, .inl ⟨rfl, by simp⟩⟩
 | x :: a, y :: b, h => by
  by_cases e : x = y
  ·subst e
   obtain ⟨k, k1, k2⟩ := first_part a b (by simpa using h)
   refine ⟨k + 1, fun i hi hi' hk => ?_, ?_⟩
   ·cases i with
    | zero => rfl
    | succ i => exact k1 i (by simpa using hi) (by simpa using hi') (by omega)
   ·rcases k2 with ⟨h1, h2⟩ | ⟨h1, h2, h3, h4⟩
    ·exact .inl ⟨by simp [h1], by rw [of_decide_eq_true h2]; simp⟩
    ·exact .inr ⟨by simpa using h1, by simpa using h2, h3, decide_eq_false fun e => of_decide_eq_false h4 (List.cons.inj e).2⟩
  ·exact ⟨0, fun i _ _ hk => by omega, .inr ⟨by simp, by simp, e, decide_eq_false fun h => e (List.cons.inj h).1⟩⟩
theorem dsame_ok (L : List Key) (w : Int) (L' : List Key) (w' : Int) (hL : L.length ≤ 1000000) (hl : L.length = L'.length) :
  SM 59 [.ptr 0 0, .ptr 1 0] (dsk2 .nil L [] w .nil L' [] w') [.ptr 0 0, .ptr 1 0] (B (decide (L = L'))) (dsk2 .nil L [] w .nil L' [] w') := by
 obtain ⟨k, k1, k2⟩ := first_part L L' hl
 exact dsame_raw _ k L w L' w' hL hl k1 k2 dok_ok
end Go.Proofs.YtbaedepmogkkeaaGreat.Av
