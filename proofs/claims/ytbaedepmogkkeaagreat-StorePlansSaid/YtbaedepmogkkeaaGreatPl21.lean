/- What the claim stands on, Pl21: contracts of functions and plain facts. No conditions. -/
import Derived.Test.YtbaedepmogkkeaaGreatPl20
import Derived.Laws.BitsAllLaws
namespace Go.Proofs.YtbaedepmogkkeaaGreat.Av
open Go Go.RowKit
set_option linter.unusedVariables false
set_option linter.unusedSimpArgs false
set_option maxRecDepth 100000
set_option maxHeartbeats 1000000
structure Plan where
 keep : Nat
 torn : Int
 cut : Int
def bitOf (k i : Nat) : Bool := decide (k / 2 ^ i % 2 = 1)
def clampI (cut : Int) : Int := if (if 64 < cut then 64 else cut) > 0 then (if 64 < cut then 64 else cut) else 0
def frontI (p : Plan) (i : Nat) : Int := if (i : Int) = p.torn then clampI p.cut else if i < 64 then (if bitOf p.keep i = true then 64 else 0) else 0
theorem clampI_in (c : Int) : 0 ≤ clampI c ∧ clampI c ≤ 64 := by
 unfold clampI
 split <;> split <;> omega
theorem frontI_in (p : Plan) (i : Nat) : 0 ≤ frontI p i ∧ frontI p i ≤ 64 := by
 unfold frontI
 split
 ·exact clampI_in _
 ·split
  ·split <;> omega
  ·omega
def ovl (n : Nat) (t s : Key) : Key := t.take n ++ s.drop n
def fN (p : Plan) (i : Nat) : Nat := (frontI p i).toNat
def keepL (p : Plan) : Nat → List Wr → List Key → List Key
 | _, [], L => L
 | i, x :: P, L => keepL p (i + 1) P (L.set x.1 (ovl (fN p i) x.2.1 (L[x.1]?.getD [])))
theorem keepL_len (p : Plan) : ∀ (P : List Wr) (i : Nat) (L : List Key), (keepL p i P L).length = L.length
 | [], _, _ => rfl
 | x :: P, i, L => by rw [keepL, keepL_len p P, List.length_set]
def Sec (L : List Key) : Prop := ∀ s ∈ L, s.length = 64
def WrOk (P : List Wr) (n : Nat) : Prop := ∀ x ∈ P, x.1 < n ∧ x.2.1.length = 64 ∧ x.2.2.length = 64
theorem Sec.set {L : List Key} (h : Sec L) {a : Nat} {s : Key} (hs : s.length = 64) : Sec (L.set a s) := fun x hx => by
 rcases List.mem_or_eq_of_mem_set hx with h1 | h1
 ·exact h x h1
 ·rw [h1]; exact hs
abbrev headN (a n : Nat) (p : AV) (w : Int) : ABlk := ⟨[B true, .sl a n, p, Z w], none, false, false⟩
def pdV (q : Pd) (id : Nat) (P : List Wr) : AV := match q with
 | .nil => nilA
 | .row _ => .sl id P.length
 | .sh => .vf P.length (wrC P)
def pdB (q : Pd) (P : List Wr) : List ABlk := match q with
 | .row fz => [penB P fz]
 | _ => []
def zK : Key := List.replicate 64 0
theorem zK_cells : zeroL (AV.ex (.int .u8 0)).cells 64 = bytesA zK := by kernel_rfl
theorem blank_ok : SP 90 [] (T zK) := by
 refine S_ Tryz.func90 (by kernel_rfl) rfl (Nat.le_of_ble_eq_true rfl) ?_
 show avc Tryz.prog SP _ _ _ _ _ _
 dsimp only [avc, startS, Array.toList, Tryz.f90]
 repeat' ((try conv => whnf) <;> first | refine Av.Va ?_ | (refine And.intro ⟨by decide, by decide, by show room 64 (bytesT Tryz.prog 5); rw [show bytesT Tryz.prog 5 = 1 by kernel_rfl]; unfold room; omega⟩ ?_) | (refine ⟨zK, ⟨zK_cells, rfl⟩, ?_⟩) | exact True.intro | refine Av.Vb ?_ | exact ⟨rfl, rfl, rfl⟩ | exact ⟨rfl, rfl⟩ | (refine Av.Vc ?_ ?_ <;> intro hBr <;> first | (exfalso; omega) | (exfalso; contradiction) | (exfalso; exact hBr rfl) | skip) | refine Av.Vd ?_ | exact rfl)
theorem zK_len : zK.length = 64 := by kernel_rfl
end Go.Proofs.YtbaedepmogkkeaaGreat.Av
namespace Go.Proofs.YtbaedepmogkkeaaGreat.Av
open Go Go.RowKit
set_option linter.unusedVariables false
set_option linter.unusedSimpArgs false
def newL (n : Nat) : List Key := List.replicate n zK
theorem newL_len (n : Nat) : (newL n).length = n := List.length_replicate
theorem newL_sec (n : Nat) : Sec (newL n) := fun s hs => by rw [(List.mem_replicate.1 hs).2]; exact zK_len
end Go.Proofs.YtbaedepmogkkeaaGreat.Av
namespace Go.Proofs.YtbaedepmogkkeaaGreat.Av
open Go Go.RowKit
set_option linter.unusedVariables false
set_option linter.unusedSimpArgs false
set_option maxRecDepth 100000
set_option maxHeartbeats 8000000
abbrev muJ (n : Nat) : List AV → List ABlk → Nat := fun vs _ => match vs with
 | .ex (.int _ i) :: _ => n - i.toNat
 | _ => 0
def partL (i n : Nat) : List Key := List.replicate i zK ++ List.replicate (n - i) []
theorem partL_len {i n : Nat} (h : i ≤ n) : (partL i n).length = n := by unfold partL; simp; omega
theorem partL_set {i n : Nat} (h : i < n) : (partL i n).set i zK = partL (i + 1) n := by
 unfold partL
 obtain ⟨k, rfl⟩ : ∃ k, n = i + 1 + k := ⟨n - (i + 1), by omega⟩
 rw [show i + 1 + k - i = k + 1 by omega, show i + 1 + k - (i + 1) = k by omega, List.replicate_succ (n := k)]
 rw [List.set_append_right _ _ (by simp), List.length_replicate, Nat.sub_self, List.set_cons_zero]
 rw [List.replicate_succ' (n := i), List.append_assoc]; rfl
theorem partL_all (n : Nat) : partL n n = newL n := by unfold partL newL; simp
theorem zeroL_T (n : Nat) : zeroL (AV.ex (.string ByteArray.empty)).cells n = (partL 0 n).map T := by
 unfold partL
 rw [List.replicate_zero, List.nil_append, Nat.sub_zero, List.map_replicate]
 induction n with
 | zero => rfl
 | succ n ih => rw [List.replicate_succ, ← ih]; rfl
theorem dnew_ok {n : Nat} (h1 : 1 ≤ n) (h2 : n ≤ 4096) : SM 22 [Z n] [] [] (.tup [.ptr 0 0, Z 0]) (dsk .nil (newL n) [] 0) := by
 have hr : room n (bytesT Tryz.prog 9) := room_s (by omega)
 have hz := zeroL_T n
 have cb := blank_ok
 have e : dsk .nil (newL n) [] 0 = [headB n nilA 0, ⟨(newL n).map T, some 9, false, true⟩] := by
  show [headB (newL n).length _ _, _] = _
  rw [newL_len]
 rw [e]
 have hs := fun i (hi : i < n) => secSet (partL i n) i zK
 have hidx := fun i (hi : i < n) => secIdx (L := partL i n) (a := i) (by rw [partL_len (by omega)]; exact hi)
 have hn := fun i (hi : i < n) => partL_set hi
 have hl := partL_all n
 refine SM_ Tryz.func22 (by kernel_rfl) rfl (Nat.le_of_ble_eq_true rfl) (Nat.zero_le _) ?_
 show avc Tryz.prog SP _ _ _ _ _ _
 dsimp only [avc, startS, Array.toList, Tryz.f22]
 repeat' ((try conv => whnf) <;> first | refine Av.Va ?_ | (refine And.intro ⟨by omega, by omega, hr⟩ ?_) | refine ⟨[], [0,1,3,7,0,0,63,127], Av.len_ok rfl (by kernel_rfl), ?_⟩ | exact True.intro | refine Av.Vb ?_ | exact ⟨rfl, rfl, rfl⟩ | exact ⟨rfl, rfl⟩ | (refine Av.Vc ?_ ?_ <;> intro hBr <;> first | (exfalso; omega) | (exfalso; contradiction) | (exfalso; exact hBr rfl) | skip) | refine Av.Vd ?_ | exact rfl)
 refine ⟨[21, 20, 4], [], fun vs bl => ∃ (i : Nat) (C : List AV), i ≤ n ∧ C = (partL i n).map T ∧ (vs = [Z i, Z n, .ptr 0 0] ∧ bl = [headB n nilA 0, ⟨C, some 9, false, true⟩]), muJ n, ?_, ?_⟩
 ·exact ⟨0, _, by omega, hz, rfl, rfl⟩
 rintro vs bl ⟨i, C, hi, hC, rfl, rfl⟩
 by_cases hlt : i < n
 ·have hs := hs i hlt
  have hidx := hidx i hlt
  have hn := hn i hlt
  rw [hn] at hs
  rw [← hC] at hs hidx
  have hdec : n - ((i : Int) + 1).toNat < n - (i : Int).toNat := by omega
  clear hz hC hl hn e
  generalize zK = z at cb hs
  repeat' ((try conv => whnf) <;> first | refine Av.Va ?_ | refine ⟨_, cb, ?_⟩ | (refine And.intro hidx ?_) | refine ⟨[], [0,1,3,7,0,0,63,127], Av.len_ok rfl (by kernel_rfl), ?_⟩ | exact True.intro | refine Av.Vb ?_ | exact ⟨rfl, rfl, rfl⟩ | exact ⟨rfl, rfl⟩ | (refine Av.Vc ?_ ?_ <;> intro hBr <;> first | (exfalso; omega) | (exfalso; contradiction) | (exfalso; exact hBr rfl) | skip) | refine Av.Vd ?_ | exact rfl)
  exact ⟨⟨i + 1, _, by omega, hs, rfl, rfl⟩, hdec⟩
 ·obtain rfl : i = n := by omega
  rw [hl] at hC
  rw [← hC]
  clear hC e hz hn hs hidx
  repeat' ((try conv => whnf) <;> first | refine Av.Va ?_ | refine ⟨[], [0,1,3,7,0,0,63,127], Av.len_ok rfl (by kernel_rfl), ?_⟩ | exact True.intro | refine Av.Vb ?_ | exact ⟨rfl, rfl, rfl⟩ | exact ⟨rfl, rfl⟩ | (refine Av.Vc ?_ ?_ <;> intro hBr <;> first | (exfalso; omega) | (exfalso; contradiction) | (exfalso; exact hBr rfl) | skip) | refine Av.Vd ?_ | exact rfl)
end Go.Proofs.YtbaedepmogkkeaaGreat.Av
