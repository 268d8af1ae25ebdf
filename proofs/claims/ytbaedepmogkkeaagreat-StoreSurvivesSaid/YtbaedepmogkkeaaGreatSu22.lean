/- What the claim stands on, Su22: contracts of functions and plain facts. No conditions. -/
import Derived.Test.YtbaedepmogkkeaaGreatSu20
import Derived.Laws.BitsAllLaws
namespace Go.Proofs.YtbaedepmogkkeaaGreat.Av
open Go Go.RowKit
set_option linter.unusedVariables false
set_option linter.unusedSimpArgs false
set_option maxRecDepth 100000
set_option maxHeartbeats 1000000
structure Plan where
 keep : Nat
 torn : Int
 cut : Int
abbrev planA (p : Plan) : AV := .ex (.agg #[.int .u64 p.keep, .int .i64 p.torn, .int .i64 p.cut])
def bitOf (k i : Nat) : Bool := decide (k / 2 ^ i % 2 = 1)
abbrev keptX (k i : Nat) : Int := IntKind.u64.wrap ((BitVec.ofInt IntKind.u64.bits ((k : Int).fdiv (2 ^ (min (i : Int).toNat IntKind.u64.bits))) &&& BitVec.ofInt IntKind.u64.bits 1).toNat : Int)
theorem keptX_eq (k i : Nat) (hk : k < 18446744073709551616) (hi : i < 64) : (keptX k i == 1) = bitOf k i := by
 have h1 : (k : Int).fdiv (2 ^ (min (i : Int).toNat IntKind.u64.bits)) = ((k / 2 ^ i : Nat) : Int) := by
  rw [Int.toNat_natCast, show min i IntKind.u64.bits = i from Nat.min_eq_left (by show i ≤ 64; omega), Int.fdiv_eq_ediv_of_nonneg _ (by exact Int.pow_nonneg (by omega))]
  rw [Int.natCast_ediv, Int.natCast_pow]; rfl
 have h2 : k / 2 ^ i < 18446744073709551616 := Nat.lt_of_le_of_lt (Nat.div_le_self _ _) hk
 unfold keptX
 rw [h1]
 unfold bitOf
 generalize k / 2 ^ i = m at h2 ⊢
 have e1 : (BitVec.ofInt IntKind.u64.bits ((m : Nat) : Int) &&& BitVec.ofInt IntKind.u64.bits 1).toNat = m % 2 := by
  rw [BitVec.toNat_and, BitVec.toNat_ofInt, BitVec.toNat_ofInt]
  show (((m : Int) % 18446744073709551616).toNat &&& ((1 : Int) % 18446744073709551616).toNat) = m % 2
  rw [show ((m : Int) % 18446744073709551616).toNat = m by omega, show ((1 : Int) % 18446744073709551616).toNat = 1 by decide, Nat.and_one_is_mod]
 have e2 : IntKind.u64.wrap ((m % 2 : Nat) : Int) = ((m % 2 : Nat) : Int) := wrap_u64 (by omega) (by omega)
 rw [e1, e2]
 rw [Bool.eq_iff_iff, beq_iff_eq]
 show _ ↔ decide (m % 2 = 1) = true
 rw [decide_eq_true_iff]
 omega
def clampI (cut : Int) : Int := if (if 64 < cut then 64 else cut) > 0 then (if 64 < cut then 64 else cut) else 0
def frontI (p : Plan) (i : Nat) : Int := if (i : Int) = p.torn then clampI p.cut else if i < 64 then (if bitOf p.keep i = true then 64 else 0) else 0
theorem clampI_in (c : Int) : 0 ≤ clampI c ∧ clampI c ≤ 64 := by
 unfold clampI
 split <;> split <;> omega
theorem frontI_in (p : Plan) (i : Nat) : 0 ≤ frontI p i ∧ frontI p i ≤ 64 := by
 unfold frontI
 split
 ·exact clampI_in _
 ·split
  ·split <;> omega
  ·omega
theorem front_raw (k : Nat) (t c : Int) (i : Nat) (hk : k < 18446744073709551616) : SP 169 [.ex (.agg #[.int .u64 k, .int .i64 t, .int .i64 c]), Z i] (Z (frontI ⟨k, t, c⟩ i)) := by
 by_cases h1 : (i : Int) = t
 ·rw [show frontI ⟨k, t, c⟩ i = clampI c from if_pos h1]
  unfold clampI
  refine S_ Tryz.func169 (by kernel_rfl) rfl (Nat.le_of_ble_eq_true rfl) ?_
  show avc Tryz.prog SP _ _ _ _ _ _
  dsimp only [avc, startS, Array.toList, Tryz.f169]
  exact Av.W
 by_cases h2 : i < 64
 ·have hx := keptX_eq k i hk h2
  have h2' : (i : Int) < 64 := by omega
  by_cases h3 : bitOf k i = true
  ·rw [show frontI ⟨k, t, c⟩ i = 64 from (if_neg h1).trans ((if_pos h2).trans (if_pos h3))]
   rw [h3] at hx
   have hx : keptX k i = 1 := by simpa using hx
   refine S_ Tryz.func169 (by kernel_rfl) rfl (Nat.le_of_ble_eq_true rfl) ?_
   show avc Tryz.prog SP _ _ _ _ _ _
   dsimp only [avc, startS, Array.toList, Tryz.f169]
   exact Av.W
  ·rw [show frontI ⟨k, t, c⟩ i = 0 from (if_neg h1).trans ((if_pos h2).trans (if_neg h3))]
   rw [show bitOf k i = false by simpa using h3] at hx
   have hx : ¬ keptX k i = 1 := by simpa using hx
   refine S_ Tryz.func169 (by kernel_rfl) rfl (Nat.le_of_ble_eq_true rfl) ?_
   show avc Tryz.prog SP _ _ _ _ _ _
   dsimp only [avc, startS, Array.toList, Tryz.f169]
   exact Av.W
 ·rw [show frontI ⟨k, t, c⟩ i = 0 from (if_neg h1).trans (if_neg h2)]
  have h2' : ¬ (i : Int) < 64 := by omega
  refine S_ Tryz.func169 (by kernel_rfl) rfl (Nat.le_of_ble_eq_true rfl) ?_
  show avc Tryz.prog SP _ _ _ _ _ _
  dsimp only [avc, startS, Array.toList, Tryz.f169]
  exact Av.W
def ovl (n : Nat) (t s : Key) : Key := t.take n ++ s.drop n
def fN (p : Plan) (i : Nat) : Nat := (frontI p i).toNat
def keepL (p : Plan) : Nat → List Wr → List Key → List Key
 | _, [], L => L
 | i, x :: P, L => keepL p (i + 1) P (L.set x.1 (ovl (fN p i) x.2.1 (L[x.1]?.getD [])))
theorem keepL_len (p : Plan) : ∀ (P : List Wr) (i : Nat) (L : List Key), (keepL p i P L).length = L.length
 | [], _, _ => rfl
 | x :: P, i, L => by rw [keepL, keepL_len p P, List.length_set]
def Sec (L : List Key) : Prop := ∀ s ∈ L, s.length = 64
def WrOk (P : List Wr) (n : Nat) : Prop := ∀ x ∈ P, x.1 < n ∧ x.2.1.length = 64 ∧ x.2.2.length = 64
theorem Sec.set {L : List Key} (h : Sec L) {a : Nat} {s : Key} (hs : s.length = 64) : Sec (L.set a s) := fun x hx => by
 rcases List.mem_or_eq_of_mem_set hx with h1 | h1
 ·exact h x h1
 ·rw [h1]; exact hs
theorem Sec.undo {n : Nat} : ∀ {P : List Wr} {L : List Key}, Sec L → WrOk P n → Sec (undoL P L)
 | [], L, h, _ => h
 | x :: P, L, h, hP => (Sec.undo h fun y hy => hP y (List.mem_cons_of_mem _ hy)).set (hP x List.mem_cons_self).2.2
theorem ovl_len {n : Nat} {t s : Key} (ht : t.length = 64) (hs : s.length = 64) (hn : n ≤ 64) : (ovl n t s).length = 64 := by
 unfold ovl
 rw [List.length_append, List.length_take, List.length_drop]; omega
theorem secGet {L : List Key} {a : Nat} (h : a < L.length) : L[a]?.getD [] = L[a] := by rw [List.getElem?_eq_getElem h]; rfl
theorem Sec.keep (p : Plan) {n : Nat} : ∀ {P : List Wr} (i : Nat) {L : List Key}, Sec L → WrOk P n → L.length = n → Sec (keepL p i P L)
 | [], i, L, h, _, _ => h
 | x :: P, i, L, h, hP, hn => by
  have hx := hP x List.mem_cons_self
  have hf := frontI_in p i
  rw [keepL]
  refine Sec.keep p (i + 1) (h.set (ovl_len hx.2.1 ?_ (by unfold fN; omega))) (fun y hy => hP y (List.mem_cons_of_mem _ hy)) (by rw [List.length_set]; exact hn)
  rw [secGet (by omega)]
  exact h _ (List.getElem_mem _)
theorem keepL_app (p : Plan) : ∀ (P : List Wr) (i : Nat) (x : Wr) (L : List Key), keepL p i (P ++ [x]) L = (keepL p i P L).set x.1 (ovl (fN p (i + P.length)) x.2.1 ((keepL p i P L)[x.1]?.getD []))
 | [], i, x, L => rfl
 | y :: P, i, x, L => by
  rw [List.cons_append, keepL, keepL_app p P, keepL]
  rw [show i + 1 + P.length = i + (y :: P).length by simp; omega]
theorem ovl_bs (n : Int) (h0 : 0 ≤ n) (h1 : n ≤ 64) (t s : Key) (ht : t.length = 64) (hs : s.length = 64) : (bs t).extract (0 : Int).toNat n.toNat ++ (bs s).extract n.toNat ((bs s).size : Int).toNat = bs (ovl n.toNat t s) := by
 rw [bs_cut, bs_cut, bs_add, bs_size]
 unfold ovl
 rw [Int.toNat_natCast, hs]
 congr 1
 rw [show (0 : Int).toNat = 0 from rfl, List.drop_zero, Nat.sub_zero]
 congr 1
 rw [List.take_of_length_le (by rw [List.length_drop]; omega)]
abbrev planB (p : Plan) : ABlk := ⟨[U p.keep, Z p.torn, Z p.cut], none, false, true⟩
abbrev headN (a n : Nat) (p : AV) (w : Int) : ABlk := ⟨[B true, .sl a n, p, Z w], none, false, false⟩
theorem crash_row (fz : Bool) (L U0 : List Key) (P : List Wr) (w : Int) (k : Nat) (t c : Int) (hk : k < 18446744073709551616) (hP : P.length ≤ 1000000) (hin : WrOk P U0.length) (hs : Sec U0) (hl : U0.length = L.length) (cok : SM 91 [.ptr 0 0] (dsk (.row fz) L P w) [.ptr 0 0] (B true) (dsk (.row fz) L P w))
  (cu : SM 168 [.ptr 0 0] (dsk (.row fz) L P w) [.ptr 0 0] (.sl 1 P.length) [headB2 L.length nilA w, penB P fz, secB U0]) :
  SM 120 [.ptr 0 0, .ex (.agg #[.int .u64 k, .int .i64 t, .int .i64 c])] (dsk (.row fz) L P w) [.ptr 0 0] (Z 0) (dsk .nil (keepL ⟨k, t, c⟩ 0 P U0) [] w) := by
 refine SM_ Tryz.func120 (by kernel_rfl) rfl (Nat.le_of_ble_eq_true rfl) (Nat.le_succ 1) ?_
 show avc Tryz.prog SP _ _ _ _ _ _
 dsimp only [avc, startS, Array.toList, Tryz.f120]
 have hW0 : Av.Mk 23 [0,1,3,7,0,16,0,64,0,448,0,1024,3072,7168,0,16384,64512,130048,0,523264,1048512,2097151,4194303] := ⟨⟩
 refine Av.Wk ?_
 refine ⟨[14, 12, 13, 3, 0], [], fun vs bl => ∃ (i : Nat) (C : List AV) (M : List Key), i ≤ P.length ∧ M = keepL ⟨k, t, c⟩ 0 (P.take i) U0 ∧ C = M.map T ∧ (vs = [Z i, .sl 0 P.length, Z P.length, .ptr 1 0, .ptr 2 0] ∧ bl = [penB P fz, planB ⟨k, t, c⟩, headN 3 L.length nilA w, ⟨C, some 9, false, true⟩]), fun vs bl => match vs with | .ex (.int _ i) :: _ => P.length - i.toNat | _ => 0, ?_, ?_⟩
 ·exact ⟨0, _, U0, by omega, rfl, rfl, rfl, rfl⟩
 rintro vs bl ⟨i, C, M, hi, hM, hC, rfl, rfl⟩
 have hML : M.length = L.length := by rw [hM, keepL_len, hl]
 have hMs : Sec M := by rw [hM]; exact Sec.keep _ 0 hs (fun x hx => hin x (List.mem_of_mem_take hx)) rfl
 by_cases hlt : i < P.length
 ·have hw := wrW hlt
  have hx := hin _ (List.getElem_mem hlt)
  have cf := front_raw k t c i hk
  have hf := frontI_in ⟨k, t, c⟩ i
  have hn : M.set P[i].1 (ovl (fN ⟨k, t, c⟩ i) P[i].2.1 (M[P[i].1]?.getD [])) = keepL ⟨k, t, c⟩ 0 (P.take (i + 1)) U0 := by
   rw [List.take_add_one, List.getElem?_eq_getElem hlt]
   show _ = keepL _ 0 (P.take i ++ [P[i]]) U0
   rw [keepL_app, ← hM, List.length_take, Nat.min_eq_left (by omega), Nat.zero_add]
  have hat := secAt (L := M) (i := P[i].1) (by omega)
  have hss := secSet M P[i].1 (ovl (fN ⟨k, t, c⟩ i) P[i].2.1 (M[P[i].1]?.getD []))
  have hidx := secIdx (L := M) (a := P[i].1) (by omega)
  have hMi : (M[P[i].1]'(by omega)).length = 64 := hMs _ (List.getElem_mem _)
  rw [secGet (by omega)] at hn hss
  generalize M[P[i].1]'(by omega) = s at hn hss hat hMi
  have ho := ovl_bs (frontI ⟨k, t, c⟩ i) hf.1 hf.2 P[i].2.1 s hx.2.1 hMi
  have e1 : (bs P[i].2.1).size = 64 := (bs_size _).trans hx.2.1
  have e2 : (bs s).size = 64 := (bs_size _).trans hMi
  have hx1 : P[i].1 < L.length := by omega
  have hz : ((bs P[i].2.1).extract (0 : Int).toNat (frontI ⟨k, t, c⟩ i).toNat).size + ((bs s).extract (frontI ⟨k, t, c⟩ i).toNat ((bs s).size : Int).toNat).size ≤ 9223372036854775807 := by
   rw [← ByteArray.size_append, ho, bs_size, ovl_len hx.2.1 hMi (by omega)]; omega
  unfold fN at hn hss
  rw [← hC] at hat hss hidx
  change setL _ _ [AV.ex (Value.string (bs _))] = _ at hss
  rw [← ho] at hss
  have hdec : P.length - ((i : Int) + 1).toNat < P.length - (i : Int).toNat := by omega
  generalize P[i].1 = a at hw hn hat hss hidx hx1
  generalize P[i].2.1 = tx at hw hn hss e1 ho hz
  generalize P[i].2.2 = v at hw
  generalize frontI ⟨k, t, c⟩ i = f at cf hf hn hss ho hz
  clear hin hs cok cu hM hC hx hMs
  obtain ⟨f0, f1⟩ := hf
  repeat' ((try conv => whnf) <;> first | refine Av.Va ?_ | (refine ⟨_, hw, ?_⟩) | refine ⟨_, cf, ?_⟩ | (refine ⟨_, hat, ?_⟩) | (refine And.intro hidx ?_) | (refine And.intro hz ?_) | refine ⟨[], [0,1,3,7,0,16,0,64,0,448,0,1024,3072,7168,0,16384,64512,130048,0,523264,1048512,2097151,4194303], Av.len_ok rfl (by kernel_rfl), ?_⟩ | exact True.intro | refine Av.Vb ?_ | exact ⟨rfl, rfl, rfl⟩ | exact ⟨rfl, rfl⟩ | (refine Av.Vc ?_ ?_ <;> intro hBr <;> first | (exfalso; omega) | (exfalso; contradiction) | (exfalso; exact hBr rfl) | skip) | refine Av.Vd ?_ | exact rfl)
  exact ⟨⟨i + 1, _, _, by omega, hn, hss, rfl, rfl⟩, hdec⟩
 ·obtain rfl : i = P.length := by omega
  rw [List.take_length] at hM
  have e : dsk .nil (keepL ⟨k, t, c⟩ 0 P U0) [] w = [headB L.length nilA w, ⟨C, some 9, false, true⟩] := by
   show [headB _ _ _, (⟨(keepL ⟨k, t, c⟩ 0 P U0).map T, _, _, _⟩ : ABlk)] = _
   rw [← hM, ← hC, hML]
  rw [e]
  clear hM hC e hin hs cok cu
  have hW1 : Av.Mk 23 [0,1,3,7,0,16,0,64,0,448,0,1024,3072,7168,0,16384,64512,130048,0,523264,1048512,2097151,4194303] := ⟨⟩
  exact Av.W
theorem crash_sh (L U0 : List Key) (P : List Wr) (w : Int) (k : Nat) (t c : Int) (hk : k < 18446744073709551616) (hP : P.length ≤ 1000000) (hin : WrOk P U0.length) (hs : Sec U0) (hl : U0.length = L.length) (cok : SM 91 [.ptr 0 0] (dsk .sh L P w) [.ptr 0 0] (B true) (dsk .sh L P w))
  (cu : SM 168 [.ptr 0 0] (dsk .sh L P w) [.ptr 0 0] (.vf P.length (wrC P)) [headB L.length nilA w, secB U0]) :
  SM 120 [.ptr 0 0, .ex (.agg #[.int .u64 k, .int .i64 t, .int .i64 c])] (dsk .sh L P w) [.ptr 0 0] (Z 0) (dsk .nil (keepL ⟨k, t, c⟩ 0 P U0) [] w) := by
 refine SM_ Tryz.func120 (by kernel_rfl) rfl (Nat.le_of_ble_eq_true rfl) (Nat.le_succ 1) ?_
 show avc Tryz.prog SP _ _ _ _ _ _
 dsimp only [avc, startS, Array.toList, Tryz.f120]
 have hW2 : Av.Mk 23 [0,1,3,7,0,16,0,64,0,448,0,1024,3072,7168,0,16384,64512,130048,0,523264,1048512,2097151,4194303] := ⟨⟩
 refine Av.Wk ?_
 refine ⟨[14, 12, 13, 3, 0], [], fun vs bl => ∃ (i : Nat) (C : List AV) (M : List Key), i ≤ P.length ∧ M = keepL ⟨k, t, c⟩ 0 (P.take i) U0 ∧ C = M.map T ∧ (vs = [Z i, .vf P.length (wrC P), Z P.length, .ptr 0 0, .ptr 1 0] ∧ bl = [planB ⟨k, t, c⟩, headN 2 L.length nilA w, ⟨C, some 9, false, true⟩]), fun vs bl => match vs with | .ex (.int _ i) :: _ => P.length - i.toNat | _ => 0, ?_, ?_⟩
 ·exact ⟨0, _, U0, by omega, rfl, rfl, rfl, rfl⟩
 rintro vs bl ⟨i, C, M, hi, hM, hC, rfl, rfl⟩
 have hML : M.length = L.length := by rw [hM, keepL_len, hl]
 have hMs : Sec M := by rw [hM]; exact Sec.keep _ 0 hs (fun x hx => hin x (List.mem_of_mem_take hx)) rfl
 by_cases hlt : i < P.length
 ·have hw := wrW hlt
  have hx := hin _ (List.getElem_mem hlt)
  have cf := front_raw k t c i hk
  have hf := frontI_in ⟨k, t, c⟩ i
  have hn : M.set P[i].1 (ovl (fN ⟨k, t, c⟩ i) P[i].2.1 (M[P[i].1]?.getD [])) = keepL ⟨k, t, c⟩ 0 (P.take (i + 1)) U0 := by
   rw [List.take_add_one, List.getElem?_eq_getElem hlt]
   show _ = keepL _ 0 (P.take i ++ [P[i]]) U0
   rw [keepL_app, ← hM, List.length_take, Nat.min_eq_left (by omega), Nat.zero_add]
  have hat := secAt (L := M) (i := P[i].1) (by omega)
  have hss := secSet M P[i].1 (ovl (fN ⟨k, t, c⟩ i) P[i].2.1 (M[P[i].1]?.getD []))
  have hidx := secIdx (L := M) (a := P[i].1) (by omega)
  have hMi : (M[P[i].1]'(by omega)).length = 64 := hMs _ (List.getElem_mem _)
  rw [secGet (by omega)] at hn hss
  generalize M[P[i].1]'(by omega) = s at hn hss hat hMi
  have ho := ovl_bs (frontI ⟨k, t, c⟩ i) hf.1 hf.2 P[i].2.1 s hx.2.1 hMi
  have e1 : (bs P[i].2.1).size = 64 := (bs_size _).trans hx.2.1
  have e2 : (bs s).size = 64 := (bs_size _).trans hMi
  have hx1 : P[i].1 < L.length := by omega
  have hz : ((bs P[i].2.1).extract (0 : Int).toNat (frontI ⟨k, t, c⟩ i).toNat).size + ((bs s).extract (frontI ⟨k, t, c⟩ i).toNat ((bs s).size : Int).toNat).size ≤ 9223372036854775807 := by
   rw [← ByteArray.size_append, ho, bs_size, ovl_len hx.2.1 hMi (by omega)]; omega
  unfold fN at hn hss
  rw [← hC] at hat hss hidx
  change setL _ _ [AV.ex (Value.string (bs _))] = _ at hss
  rw [← ho] at hss
  have hdec : P.length - ((i : Int) + 1).toNat < P.length - (i : Int).toNat := by omega
  generalize P[i].1 = a at hw hn hat hss hidx hx1
  generalize P[i].2.1 = tx at hw hn hss e1 ho hz
  generalize P[i].2.2 = v at hw
  generalize frontI ⟨k, t, c⟩ i = f at cf hf hn hss ho hz
  clear hin hs cok cu hM hC hx hMs
  obtain ⟨f0, f1⟩ := hf
  repeat' ((try conv => whnf) <;> first | refine Av.Va ?_ | (refine ⟨_, hw, ?_⟩) | refine ⟨_, cf, ?_⟩ | (refine ⟨_, hat, ?_⟩) | (refine And.intro hidx ?_) | (refine And.intro hz ?_) | refine ⟨[], [0,1,3,7,0,16,0,64,0,448,0,1024,3072,7168,0,16384,64512,130048,0,523264,1048512,2097151,4194303], Av.len_ok rfl (by kernel_rfl), ?_⟩ | exact True.intro | refine Av.Vb ?_ | exact ⟨rfl, rfl, rfl⟩ | exact ⟨rfl, rfl⟩ | (refine Av.Vc ?_ ?_ <;> intro hBr <;> first | (exfalso; omega) | (exfalso; contradiction) | (exfalso; exact hBr rfl) | skip) | refine Av.Vd ?_ | exact rfl)
  exact ⟨⟨i + 1, _, _, by omega, hn, hss, rfl, rfl⟩, hdec⟩
 ·obtain rfl : i = P.length := by omega
  rw [List.take_length] at hM
  have e : dsk .nil (keepL ⟨k, t, c⟩ 0 P U0) [] w = [headB L.length nilA w, ⟨C, some 9, false, true⟩] := by
   show [headB _ _ _, (⟨(keepL ⟨k, t, c⟩ 0 P U0).map T, _, _, _⟩ : ABlk)] = _
   rw [← hM, ← hC, hML]
  rw [e]
  clear hM hC e hin hs cok cu
  have hW3 : Av.Mk 23 [0,1,3,7,0,16,0,64,0,448,0,1024,3072,7168,0,16384,64512,130048,0,523264,1048512,2097151,4194303] := ⟨⟩
  exact Av.W
theorem dcrash_ok (q : Pd) (L : List Key) (P : List Wr) (w : Int) (p : Plan) (hk : p.keep < 18446744073709551616) (hq : PdOk q P) (hP : P.length ≤ 1000000) (hin : WrOk P L.length) (hs : Sec L) :
  SM 120 [.ptr 0 0, planA p] (dsk q L P w) [.ptr 0 0] (Z 0) (dsk .nil (keepL p 0 P (undoL P L)) [] w) := by
 have cok := dok_ok q L P w
 have cu := dundo_ok q L P w hq hP (fun x hx => (hin x hx).1)
 have hsu := Sec.undo hs hin
 have hul := undoL_len P L
 cases q with
 | nil =>
  have hq : P = [] := hq
  subst hq
  refine SM_ Tryz.func120 (by kernel_rfl) rfl (Nat.le_of_ble_eq_true rfl) (Nat.le_succ 1) ?_
  show avc Tryz.prog SP _ _ _ _ _ _
  dsimp only [avc, startS, Array.toList, Tryz.f120]
  have hW4 : Av.Mk 23 [0,1,3,7,0,16,0,64,0,448,0,1024,3072,7168,0,16384,64512,130048,0,523264,1048512,2097151,4194303] := ⟨⟩
  refine Av.Wk ?_
  refine ⟨[14, 12, 13, 3, 0], [], fun vs bl => vs = [Z 0, nilA, Z 0, .ptr 0 0, .ptr 1 0] ∧ bl = [planB p, headN 2 L.length nilA w, secB L], fun vs bl => 0, ⟨rfl, rfl⟩, ?_⟩
  rintro vs bl ⟨rfl, rfl⟩
  have hW5 : Av.Mk 23 [0,1,3,7,0,16,0,64,0,448,0,1024,3072,7168,0,16384,64512,130048,0,523264,1048512,2097151,4194303] := ⟨⟩
  exact Av.W
 | row fz => exact crash_row fz L (undoL P L) P w p.keep p.torn p.cut hk hP (by rw [hul]; exact hin) hsu hul cok (by have := cu; simp only [undoB, undoR, hul] at this; exact this)
 | sh => exact crash_sh L (undoL P L) P w p.keep p.torn p.cut hk hP (by rw [hul]; exact hin) hsu hul cok (by have := cu; simp only [undoB, undoR, hul] at this; exact this)
def pdV (q : Pd) (id : Nat) (P : List Wr) : AV := match q with
 | .nil => nilA
 | .row _ => .sl id P.length
 | .sh => .vf P.length (wrC P)
def pdB (q : Pd) (P : List Wr) : List ABlk := match q with
 | .row fz => [penB P fz]
 | _ => []
def zK : Key := List.replicate 64 0
theorem zK_cells : zeroL (AV.ex (.int .u8 0)).cells 64 = bytesA zK := by kernel_rfl
theorem blank_ok : SP 90 [] (T zK) := by
 refine S_ Tryz.func90 (by kernel_rfl) rfl (Nat.le_of_ble_eq_true rfl) ?_
 show avc Tryz.prog SP _ _ _ _ _ _
 dsimp only [avc, startS, Array.toList, Tryz.f90]
 repeat' ((try conv => whnf) <;> first | refine Av.Va ?_ | (refine And.intro ⟨by decide, by decide, by show room 64 (bytesT Tryz.prog 5); rw [show bytesT Tryz.prog 5 = 1 by kernel_rfl]; unfold room; omega⟩ ?_) | (refine ⟨zK, ⟨zK_cells, rfl⟩, ?_⟩) | exact True.intro | refine Av.Vb ?_ | exact ⟨rfl, rfl, rfl⟩ | exact ⟨rfl, rfl⟩ | (refine Av.Vc ?_ ?_ <;> intro hBr <;> first | (exfalso; omega) | (exfalso; contradiction) | (exfalso; exact hBr rfl) | skip) | refine Av.Vd ?_ | exact rfl)
theorem zK_len : zK.length = 64 := by kernel_rfl
end Go.Proofs.YtbaedepmogkkeaaGreat.Av
namespace Go.Proofs.YtbaedepmogkkeaaGreat.Av
open Go Go.RowKit
set_option linter.unusedVariables false
set_option linter.unusedSimpArgs false
def newL (n : Nat) : List Key := List.replicate n zK
theorem newL_len (n : Nat) : (newL n).length = n := List.length_replicate
theorem newL_sec (n : Nat) : Sec (newL n) := fun s hs => by rw [(List.mem_replicate.1 hs).2]; exact zK_len
end Go.Proofs.YtbaedepmogkkeaaGreat.Av
namespace Go.Proofs.YtbaedepmogkkeaaGreat.Av
open Go Go.RowKit
set_option linter.unusedVariables false
set_option linter.unusedSimpArgs false
set_option maxRecDepth 100000
set_option maxHeartbeats 8000000
abbrev muJ (n : Nat) : List AV → List ABlk → Nat := fun vs _ => match vs with
 | .ex (.int _ i) :: _ => n - i.toNat
 | _ => 0
def partL (i n : Nat) : List Key := List.replicate i zK ++ List.replicate (n - i) []
theorem partL_len {i n : Nat} (h : i ≤ n) : (partL i n).length = n := by unfold partL; simp; omega
theorem partL_set {i n : Nat} (h : i < n) : (partL i n).set i zK = partL (i + 1) n := by
 unfold partL
 obtain ⟨k, rfl⟩ : ∃ k, n = i + 1 + k := ⟨n - (i + 1), by omega⟩
 rw [show i + 1 + k - i = k + 1 by omega, show i + 1 + k - (i + 1) = k by omega, List.replicate_succ (n := k)]
 rw [List.set_append_right _ _ (by simp), List.length_replicate, Nat.sub_self, List.set_cons_zero]
 rw [List.replicate_succ' (n := i), List.append_assoc]; rfl
theorem partL_all (n : Nat) : partL n n = newL n := by unfold partL newL; simp
theorem zeroL_T (n : Nat) : zeroL (AV.ex (.string ByteArray.empty)).cells n = (partL 0 n).map T := by
 unfold partL
 rw [List.replicate_zero, List.nil_append, Nat.sub_zero, List.map_replicate]
 induction n with
 | zero => rfl
 | succ n ih => rw [List.replicate_succ, ← ih]; rfl
theorem dnew_ok {n : Nat} (h1 : 1 ≤ n) (h2 : n ≤ 4096) : SM 22 [Z n] [] [] (.tup [.ptr 0 0, Z 0]) (dsk .nil (newL n) [] 0) := by
 have hr : room n (bytesT Tryz.prog 9) := room_s (by omega)
 have hz := zeroL_T n
 have cb := blank_ok
 have e : dsk .nil (newL n) [] 0 = [headB n nilA 0, ⟨(newL n).map T, some 9, false, true⟩] := by
  show [headB (newL n).length _ _, _] = _
  rw [newL_len]
 rw [e]
 have hs := fun i (hi : i < n) => secSet (partL i n) i zK
 have hidx := fun i (hi : i < n) => secIdx (L := partL i n) (a := i) (by rw [partL_len (by omega)]; exact hi)
 have hn := fun i (hi : i < n) => partL_set hi
 have hl := partL_all n
 refine SM_ Tryz.func22 (by kernel_rfl) rfl (Nat.le_of_ble_eq_true rfl) (Nat.zero_le _) ?_
 show avc Tryz.prog SP _ _ _ _ _ _
 dsimp only [avc, startS, Array.toList, Tryz.f22]
 repeat' ((try conv => whnf) <;> first | refine Av.Va ?_ | (refine And.intro ⟨by omega, by omega, hr⟩ ?_) | refine ⟨[], [0,1,3,7,0,0,63,127], Av.len_ok rfl (by kernel_rfl), ?_⟩ | exact True.intro | refine Av.Vb ?_ | exact ⟨rfl, rfl, rfl⟩ | exact ⟨rfl, rfl⟩ | (refine Av.Vc ?_ ?_ <;> intro hBr <;> first | (exfalso; omega) | (exfalso; contradiction) | (exfalso; exact hBr rfl) | skip) | refine Av.Vd ?_ | exact rfl)
 refine ⟨[21, 20, 4], [], fun vs bl => ∃ (i : Nat) (C : List AV), i ≤ n ∧ C = (partL i n).map T ∧ (vs = [Z i, Z n, .ptr 0 0] ∧ bl = [headB n nilA 0, ⟨C, some 9, false, true⟩]), muJ n, ?_, ?_⟩
 ·exact ⟨0, _, by omega, hz, rfl, rfl⟩
 rintro vs bl ⟨i, C, hi, hC, rfl, rfl⟩
 by_cases hlt : i < n
 ·have hs := hs i hlt
  have hidx := hidx i hlt
  have hn := hn i hlt
  rw [hn] at hs
  rw [← hC] at hs hidx
  have hdec : n - ((i : Int) + 1).toNat < n - (i : Int).toNat := by omega
  clear hz hC hl hn e
  generalize zK = z at cb hs
  repeat' ((try conv => whnf) <;> first | refine Av.Va ?_ | refine ⟨_, cb, ?_⟩ | (refine And.intro hidx ?_) | refine ⟨[], [0,1,3,7,0,0,63,127], Av.len_ok rfl (by kernel_rfl), ?_⟩ | exact True.intro | refine Av.Vb ?_ | exact ⟨rfl, rfl, rfl⟩ | exact ⟨rfl, rfl⟩ | (refine Av.Vc ?_ ?_ <;> intro hBr <;> first | (exfalso; omega) | (exfalso; contradiction) | (exfalso; exact hBr rfl) | skip) | refine Av.Vd ?_ | exact rfl)
  exact ⟨⟨i + 1, _, by omega, hs, rfl, rfl⟩, hdec⟩
 ·obtain rfl : i = n := by omega
  rw [hl] at hC
  rw [← hC]
  clear hC e hz hn hs hidx
  repeat' ((try conv => whnf) <;> first | refine Av.Va ?_ | refine ⟨[], [0,1,3,7,0,0,63,127], Av.len_ok rfl (by kernel_rfl), ?_⟩ | exact True.intro | refine Av.Vb ?_ | exact ⟨rfl, rfl, rfl⟩ | exact ⟨rfl, rfl⟩ | (refine Av.Vc ?_ ?_ <;> intro hBr <;> first | (exfalso; omega) | (exfalso; contradiction) | (exfalso; exact hBr rfl) | skip) | refine Av.Vd ?_ | exact rfl)
end Go.Proofs.YtbaedepmogkkeaaGreat.Av
