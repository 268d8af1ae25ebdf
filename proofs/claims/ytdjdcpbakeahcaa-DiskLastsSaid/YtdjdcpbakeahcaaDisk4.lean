/- disk: Crash, Fork, New, Same, walked. No conditions but that lengths are what memory holds. -/
import Derived.Test.YtdjdcpbakeahcaaDisk3
namespace Go.Proofs.Ytdjdcpbakeahcaa.Av
open Go Go.RowKit
set_option linter.unusedVariables false
set_option linter.unusedSimpArgs false
set_option maxRecDepth 100000
set_option maxHeartbeats 1000000

/-- the first bytes of one text, and behind them another one's -/
def ovl (n : Nat) (t s : Key) : Key := t.take n ++ s.drop n
def fN (p : Plan) (i : Nat) : Nat := (frontI p i).toNat
/-- pending writes, as far as they are kept, the first one first -/
def keepL (p : Plan) : Nat → List Wr → List Key → List Key
  | _, [], L => L
  | i, x :: P, L => keepL p (i + 1) P (L.set x.1 (ovl (fN p i) x.2.1 (L[x.1]?.getD [])))
theorem keepL_len (p : Plan) : ∀ (P : List Wr) (i : Nat) (L : List Key), (keepL p i P L).length = L.length
  | [], _, _ => rfl
  | x :: P, i, L => by rw [keepL, keepL_len p P, List.length_set]
/-- all sectors, and what is pending, have 64 bytes -/
def Sec (L : List Key) : Prop := ∀ s ∈ L, s.length = 64
def WrOk (P : List Wr) (n : Nat) : Prop := ∀ x ∈ P, x.1 < n ∧ x.2.1.length = 64 ∧ x.2.2.length = 64
theorem Sec.set {L : List Key} (h : Sec L) {a : Nat} {s : Key} (hs : s.length = 64) : Sec (L.set a s) := fun x hx => by
  rcases List.mem_or_eq_of_mem_set hx with h1 | h1
  · exact h x h1
  · rw [h1]; exact hs
theorem Sec.undo {n : Nat} : ∀ {P : List Wr} {L : List Key}, Sec L → WrOk P n → Sec (undoL P L)
  | [], L, h, _ => h
  | x :: P, L, h, hP => (Sec.undo h fun y hy => hP y (List.mem_cons_of_mem _ hy)).set (hP x List.mem_cons_self).2.2
theorem ovl_len {n : Nat} {t s : Key} (ht : t.length = 64) (hs : s.length = 64) (hn : n ≤ 64) : (ovl n t s).length = 64 := by
  unfold ovl
  rw [List.length_append, List.length_take, List.length_drop]; omega
theorem secGet {L : List Key} {a : Nat} (h : a < L.length) : L[a]?.getD [] = L[a] := by rw [List.getElem?_eq_getElem h]; rfl
theorem Sec.keep (p : Plan) {n : Nat} : ∀ {P : List Wr} (i : Nat) {L : List Key}, Sec L → WrOk P n → L.length = n → Sec (keepL p i P L)
  | [], i, L, h, _, _ => h
  | x :: P, i, L, h, hP, hn => by
    have hx := hP x List.mem_cons_self
    have hf := frontI_in p i
    rw [keepL]
    refine Sec.keep p (i + 1) (h.set (ovl_len hx.2.1 ?_ (by unfold fN; omega))) (fun y hy => hP y (List.mem_cons_of_mem _ hy)) (by rw [List.length_set]; exact hn)
    rw [secGet (by omega)]
    exact h _ (List.getElem_mem _)
theorem keepL_app (p : Plan) : ∀ (P : List Wr) (i : Nat) (x : Wr) (L : List Key), keepL p i (P ++ [x]) L = (keepL p i P L).set x.1 (ovl (fN p (i + P.length)) x.2.1 ((keepL p i P L)[x.1]?.getD []))
  | [], i, x, L => rfl
  | y :: P, i, x, L => by
    rw [List.cons_append, keepL, keepL_app p P, keepL]
    rw [show i + 1 + P.length = i + (y :: P).length by simp; omega]
theorem ovl_bs (n : Int) (h0 : 0 ≤ n) (h1 : n ≤ 64) (t s : Key) (ht : t.length = 64) (hs : s.length = 64) : (bs t).extract (0 : Int).toNat n.toNat ++ (bs s).extract n.toNat ((bs s).size : Int).toNat = bs (ovl n.toNat t s) := by
  rw [bs_cut, bs_cut, bs_add, bs_size]
  unfold ovl
  rw [Int.toNat_natCast, hs]
  congr 1
  rw [show (0 : Int).toNat = 0 from rfl, List.drop_zero, Nat.sub_zero]
  congr 1
  rw [List.take_of_length_le (by rw [List.length_drop]; omega)]
abbrev planB (p : Plan) : ABlk := ⟨[U p.keep, Z p.torn, Z p.cut], none, false, true⟩
abbrev headN (a n : Nat) (p : AV) (w : Int) : ABlk := ⟨[B true, .sl a n, p, Z w], none, false, false⟩
theorem crash_row (fz : Bool) (L U0 : List Key) (P : List Wr) (w : Int) (k : Nat) (t c : Int) (hk : k < 18446744073709551616) (hP : P.length ≤ 1000000) (hin : WrOk P U0.length) (hs : Sec U0) (hl : U0.length = L.length) (cok : SM 72 [.ptr 0 0] (dsk (.row fz) L P w) [.ptr 0 0] (B true) (dsk (.row fz) L P w))
    (cu : SM 74 [.ptr 0 0] (dsk (.row fz) L P w) [.ptr 0 0] (.sl 1 P.length) [headB2 L.length nilA w, penB P fz, secB U0]) :
    SM 21 [.ptr 0 0, .ex (.agg #[.int .u64 k, .int .i64 t, .int .i64 c])] (dsk (.row fz) L P w) [.ptr 0 0] (Z 0) (dsk .nil (keepL ⟨k, t, c⟩ 0 P U0) [] w) := by
  refine SM_ Try.func21 (by kernel_rfl) rfl (Nat.le_of_ble_eq_true rfl) (Nat.le_succ 1) ?_
  show avc Try.prog SP _ _ _ _ _ _
  dsimp only [avc, startS, Array.toList, Try.f21]
  repeat' ((try conv => whnf) <;> (first | (refine Hold.mk ?_) | (refine And.intro (fun _ => ?_) (fun h => Bool.noConfusion h)) | (refine And.intro (fun h => Bool.noConfusion h) (fun _ => ?_)) | (refine And.intro (Nat.le_of_ble_eq_true rfl) ?_) | (refine And.intro (fun _ => ?_) (fun h => Bool.noConfusion ((beq_self_eq_true _).symm.trans h))) | (refine And.intro (fun h => Bool.noConfusion ((bne_self_eq_false _).symm.trans h)) (fun _ => ?_)) | (refine And.intro (fun h => Bool.noConfusion ((beq_self_eq_true _).symm.trans h)) (fun _ => ?_)) | (refine And.intro (fun _ => ?_) (fun h => Bool.noConfusion ((bne_self_eq_false _).symm.trans h))) | (refine And.intro (show inR _ from ⟨by omega, by omega⟩) ?_) | (refine ⟨_, _, _, cok, ?_⟩) | (refine ⟨_, _, _, cu, ?_⟩) | (refine ⟨[], [0, 1, 3, 7, 0, 16, 0, 64, 0, 448, 0, 1024, 3072, 7168, 0, 16384, 64512, 130048, 0, 523264, 1048512, 2097151, 4194303], len_ok rfl (by kernel_rfl), ?_⟩) | (exact True.intro) | (refine And.intro (show eqT _ _ = true by kernel_rfl) ?_) | (refine And.intro rfl ?_) | (refine And.intro (And.intro (Nat.le_of_ble_eq_true rfl) rfl) ?_) | (refine And.intro (And.intro rfl rfl) ?_) | (refine And.intro (And.intro rfl (And.intro rfl rfl)) ?_) | (exact And.intro rfl (And.intro rfl rfl)) | (exact And.intro rfl rfl) | (refine br_lt ?_ ?_ <;> intro hBr <;> (first | (exfalso; omega) | (exfalso; contradiction) | (exfalso; exact hBr rfl) | skip)) | (refine br_lt_ ?_ ?_ <;> intro hBr <;> (first | (exfalso; omega) | (exfalso; contradiction) | (exfalso; exact hBr rfl) | skip)) | (refine br_le ?_ ?_ <;> intro hBr <;> (first | (exfalso; omega) | (exfalso; contradiction) | (exfalso; exact hBr rfl) | skip)) | (refine br_le_ ?_ ?_ <;> intro hBr <;> (first | (exfalso; omega) | (exfalso; contradiction) | (exfalso; exact hBr rfl) | skip)) | (refine br_eq ?_ ?_ <;> intro hBr <;> (first | (exfalso; omega) | (exfalso; contradiction) | (exfalso; exact hBr rfl) | skip)) | (refine br_eq_ ?_ ?_ <;> intro hBr <;> (first | (exfalso; omega) | (exfalso; contradiction) | (exfalso; exact hBr rfl) | skip)) | (refine br_seq ?_ ?_ <;> intro hBr <;> (first | (exfalso; omega) | (exfalso; contradiction) | (exfalso; exact hBr rfl) | skip)) | (refine br_seq_ ?_ ?_ <;> intro hBr <;> (first | (exfalso; omega) | (exfalso; contradiction) | (exfalso; exact hBr rfl) | skip)) | (refine br_not ?_) | (refine br_not_ ?_) | (refine br_and ?_) | (refine br_and_ ?_) | (refine And.intro (by omega) ?_) | (refine ⟨_, wrap_i64 (by omega), ?_⟩) | (refine ⟨_, wrap_u64 (by omega) (by omega), ?_⟩) | (refine ⟨_, wrap_u8 (by omega) (by omega), ?_⟩) | (refine ⟨_, wrap_u32 (by omega) (by omega), ?_⟩) | (refine ⟨_, wrap_u16 (by omega) (by omega), ?_⟩) | (refine ⟨_, rfl, ?_⟩) | (exact rfl)))
  refine ⟨[14, 12, 13, 3, 0], [], fun vs bl => ∃ (i : Nat) (C : List AV) (M : List Key), i ≤ P.length ∧ M = keepL ⟨k, t, c⟩ 0 (P.take i) U0 ∧ C = M.map T ∧ (vs = [Z i, .sl 0 P.length, Z P.length, .ptr 1 0, .ptr 2 0] ∧ bl = [penB P fz, planB ⟨k, t, c⟩, headN 3 L.length nilA w, ⟨C, some 9, false, true⟩]), fun vs bl => match vs with | .ex (.int _ i) :: _ => P.length - i.toNat | _ => 0, ?_, ?_⟩
  · exact ⟨0, _, U0, by omega, rfl, rfl, rfl, rfl⟩
  rintro vs bl ⟨i, C, M, hi, hM, hC, rfl, rfl⟩
  have hML : M.length = L.length := by rw [hM, keepL_len, hl]
  have hMs : Sec M := by rw [hM]; exact Sec.keep _ 0 hs (fun x hx => hin x (List.mem_of_mem_take hx)) rfl
  by_cases hlt : i < P.length
  · have hw := wrW hlt
    have hx := hin _ (List.getElem_mem hlt)
    have cf := front_raw k t c i hk
    have hf := frontI_in ⟨k, t, c⟩ i
    have hn : M.set P[i].1 (ovl (fN ⟨k, t, c⟩ i) P[i].2.1 (M[P[i].1]?.getD [])) = keepL ⟨k, t, c⟩ 0 (P.take (i + 1)) U0 := by
      rw [List.take_add_one, List.getElem?_eq_getElem hlt]
      show _ = keepL _ 0 (P.take i ++ [P[i]]) U0
      rw [keepL_app, ← hM, List.length_take, Nat.min_eq_left (by omega), Nat.zero_add]
    have hat := secAt (L := M) (i := P[i].1) (by omega)
    have hss := secSet M P[i].1 (ovl (fN ⟨k, t, c⟩ i) P[i].2.1 (M[P[i].1]?.getD []))
    have hidx := secIdx (L := M) (a := P[i].1) (by omega)
    have hMi : (M[P[i].1]'(by omega)).length = 64 := hMs _ (List.getElem_mem _)
    rw [secGet (by omega)] at hn hss
    generalize M[P[i].1]'(by omega) = s at hn hss hat hMi
    have ho := ovl_bs (frontI ⟨k, t, c⟩ i) hf.1 hf.2 P[i].2.1 s hx.2.1 hMi
    have e1 : (bs P[i].2.1).size = 64 := (bs_size _).trans hx.2.1
    have e2 : (bs s).size = 64 := (bs_size _).trans hMi
    have hx1 : P[i].1 < L.length := by omega
    have hz : ((bs P[i].2.1).extract (0 : Int).toNat (frontI ⟨k, t, c⟩ i).toNat).size + ((bs s).extract (frontI ⟨k, t, c⟩ i).toNat ((bs s).size : Int).toNat).size ≤ 9223372036854775807 := by
      rw [← ByteArray.size_append, ho, bs_size, ovl_len hx.2.1 hMi (by omega)]; omega
    unfold fN at hn hss
    rw [← hC] at hat hss hidx
    change setL _ _ [AV.ex (Value.string (bs _))] = _ at hss
    rw [← ho] at hss
    have hdec : P.length - ((i : Int) + 1).toNat < P.length - (i : Int).toNat := by omega
    generalize P[i].1 = a at hw hn hat hss hidx hx1
    generalize P[i].2.1 = tx at hw hn hss e1 ho hz
    generalize P[i].2.2 = v at hw
    generalize frontI ⟨k, t, c⟩ i = f at cf hf hn hss ho hz
    clear hin hs cok cu hM hC hx hMs
    obtain ⟨f0, f1⟩ := hf
    repeat' ((try conv => whnf) <;> (first | (refine Hold.mk ?_) | (refine And.intro (fun _ => ?_) (fun h => Bool.noConfusion h)) | (refine And.intro (fun h => Bool.noConfusion h) (fun _ => ?_)) | (refine And.intro (Nat.le_of_ble_eq_true rfl) ?_) | (refine And.intro (fun _ => ?_) (fun h => Bool.noConfusion ((beq_self_eq_true _).symm.trans h))) | (refine And.intro (fun h => Bool.noConfusion ((bne_self_eq_false _).symm.trans h)) (fun _ => ?_)) | (refine And.intro (fun h => Bool.noConfusion ((beq_self_eq_true _).symm.trans h)) (fun _ => ?_)) | (refine And.intro (fun _ => ?_) (fun h => Bool.noConfusion ((bne_self_eq_false _).symm.trans h))) | (refine And.intro (show inR _ from ⟨by omega, by omega⟩) ?_) | (refine ⟨_, hw, ?_⟩) | (refine ⟨_, cf, ?_⟩) | (refine ⟨_, hat, ?_⟩) | (refine And.intro hidx ?_) | (refine And.intro hz ?_) | (refine ⟨[], [0, 1, 3, 7, 0, 16, 0, 64, 0, 448, 0, 1024, 3072, 7168, 0, 16384, 64512, 130048, 0, 523264, 1048512, 2097151, 4194303], len_ok rfl (by kernel_rfl), ?_⟩) | (exact True.intro) | (refine And.intro (show eqT _ _ = true by kernel_rfl) ?_) | (refine And.intro rfl ?_) | (refine And.intro (And.intro (Nat.le_of_ble_eq_true rfl) rfl) ?_) | (refine And.intro (And.intro rfl rfl) ?_) | (refine And.intro (And.intro rfl (And.intro rfl rfl)) ?_) | (exact And.intro rfl (And.intro rfl rfl)) | (exact And.intro rfl rfl) | (refine br_lt ?_ ?_ <;> intro hBr <;> (first | (exfalso; omega) | (exfalso; contradiction) | (exfalso; exact hBr rfl) | skip)) | (refine br_lt_ ?_ ?_ <;> intro hBr <;> (first | (exfalso; omega) | (exfalso; contradiction) | (exfalso; exact hBr rfl) | skip)) | (refine br_le ?_ ?_ <;> intro hBr <;> (first | (exfalso; omega) | (exfalso; contradiction) | (exfalso; exact hBr rfl) | skip)) | (refine br_le_ ?_ ?_ <;> intro hBr <;> (first | (exfalso; omega) | (exfalso; contradiction) | (exfalso; exact hBr rfl) | skip)) | (refine br_eq ?_ ?_ <;> intro hBr <;> (first | (exfalso; omega) | (exfalso; contradiction) | (exfalso; exact hBr rfl) | skip)) | (refine br_eq_ ?_ ?_ <;> intro hBr <;> (first | (exfalso; omega) | (exfalso; contradiction) | (exfalso; exact hBr rfl) | skip)) | (refine br_seq ?_ ?_ <;> intro hBr <;> (first | (exfalso; omega) | (exfalso; contradiction) | (exfalso; exact hBr rfl) | skip)) | (refine br_seq_ ?_ ?_ <;> intro hBr <;> (first | (exfalso; omega) | (exfalso; contradiction) | (exfalso; exact hBr rfl) | skip)) | (refine br_not ?_) | (refine br_not_ ?_) | (refine br_and ?_) | (refine br_and_ ?_) | (refine And.intro (by omega) ?_) | (refine ⟨_, wrap_i64 (by omega), ?_⟩) | (refine ⟨_, wrap_u64 (by omega) (by omega), ?_⟩) | (refine ⟨_, wrap_u8 (by omega) (by omega), ?_⟩) | (refine ⟨_, wrap_u32 (by omega) (by omega), ?_⟩) | (refine ⟨_, wrap_u16 (by omega) (by omega), ?_⟩) | (refine ⟨_, rfl, ?_⟩) | (exact rfl)))
    exact ⟨⟨i + 1, _, _, by omega, hn, hss, rfl, rfl⟩, hdec⟩
  · obtain rfl : i = P.length := by omega
    rw [List.take_length] at hM
    have e : dsk .nil (keepL ⟨k, t, c⟩ 0 P U0) [] w = [headB L.length nilA w, ⟨C, some 9, false, true⟩] := by
      show [headB _ _ _, (⟨(keepL ⟨k, t, c⟩ 0 P U0).map T, _, _, _⟩ : ABlk)] = _
      rw [← hM, ← hC, hML]
    rw [e]
    clear hM hC e hin hs cok cu
    repeat' ((try conv => whnf) <;> (first | (refine Hold.mk ?_) | (refine And.intro (fun _ => ?_) (fun h => Bool.noConfusion h)) | (refine And.intro (fun h => Bool.noConfusion h) (fun _ => ?_)) | (refine And.intro (Nat.le_of_ble_eq_true rfl) ?_) | (refine And.intro (fun _ => ?_) (fun h => Bool.noConfusion ((beq_self_eq_true _).symm.trans h))) | (refine And.intro (fun h => Bool.noConfusion ((bne_self_eq_false _).symm.trans h)) (fun _ => ?_)) | (refine And.intro (fun h => Bool.noConfusion ((beq_self_eq_true _).symm.trans h)) (fun _ => ?_)) | (refine And.intro (fun _ => ?_) (fun h => Bool.noConfusion ((bne_self_eq_false _).symm.trans h))) | (refine And.intro (show inR _ from ⟨by omega, by omega⟩) ?_) | (refine ⟨[], [0, 1, 3, 7, 0, 16, 0, 64, 0, 448, 0, 1024, 3072, 7168, 0, 16384, 64512, 130048, 0, 523264, 1048512, 2097151, 4194303], len_ok rfl (by kernel_rfl), ?_⟩) | (exact True.intro) | (refine And.intro (show eqT _ _ = true by kernel_rfl) ?_) | (refine And.intro rfl ?_) | (refine And.intro (And.intro (Nat.le_of_ble_eq_true rfl) rfl) ?_) | (refine And.intro (And.intro rfl rfl) ?_) | (refine And.intro (And.intro rfl (And.intro rfl rfl)) ?_) | (exact And.intro rfl (And.intro rfl rfl)) | (exact And.intro rfl rfl) | (refine br_lt ?_ ?_ <;> intro hBr <;> (first | (exfalso; omega) | (exfalso; contradiction) | (exfalso; exact hBr rfl) | skip)) | (refine br_lt_ ?_ ?_ <;> intro hBr <;> (first | (exfalso; omega) | (exfalso; contradiction) | (exfalso; exact hBr rfl) | skip)) | (refine br_le ?_ ?_ <;> intro hBr <;> (first | (exfalso; omega) | (exfalso; contradiction) | (exfalso; exact hBr rfl) | skip)) | (refine br_le_ ?_ ?_ <;> intro hBr <;> (first | (exfalso; omega) | (exfalso; contradiction) | (exfalso; exact hBr rfl) | skip)) | (refine br_eq ?_ ?_ <;> intro hBr <;> (first | (exfalso; omega) | (exfalso; contradiction) | (exfalso; exact hBr rfl) | skip)) | (refine br_eq_ ?_ ?_ <;> intro hBr <;> (first | (exfalso; omega) | (exfalso; contradiction) | (exfalso; exact hBr rfl) | skip)) | (refine br_seq ?_ ?_ <;> intro hBr <;> (first | (exfalso; omega) | (exfalso; contradiction) | (exfalso; exact hBr rfl) | skip)) | (refine br_seq_ ?_ ?_ <;> intro hBr <;> (first | (exfalso; omega) | (exfalso; contradiction) | (exfalso; exact hBr rfl) | skip)) | (refine br_not ?_) | (refine br_not_ ?_) | (refine br_and ?_) | (refine br_and_ ?_) | (refine And.intro (by omega) ?_) | (refine ⟨_, wrap_i64 (by omega), ?_⟩) | (refine ⟨_, wrap_u64 (by omega) (by omega), ?_⟩) | (refine ⟨_, wrap_u8 (by omega) (by omega), ?_⟩) | (refine ⟨_, wrap_u32 (by omega) (by omega), ?_⟩) | (refine ⟨_, wrap_u16 (by omega) (by omega), ?_⟩) | (refine ⟨_, rfl, ?_⟩) | (exact rfl)))
theorem crash_sh (L U0 : List Key) (P : List Wr) (w : Int) (k : Nat) (t c : Int) (hk : k < 18446744073709551616) (hP : P.length ≤ 1000000) (hin : WrOk P U0.length) (hs : Sec U0) (hl : U0.length = L.length) (cok : SM 72 [.ptr 0 0] (dsk .sh L P w) [.ptr 0 0] (B true) (dsk .sh L P w))
    (cu : SM 74 [.ptr 0 0] (dsk .sh L P w) [.ptr 0 0] (.vf P.length (wrC P)) [headB L.length nilA w, secB U0]) :
    SM 21 [.ptr 0 0, .ex (.agg #[.int .u64 k, .int .i64 t, .int .i64 c])] (dsk .sh L P w) [.ptr 0 0] (Z 0) (dsk .nil (keepL ⟨k, t, c⟩ 0 P U0) [] w) := by
  refine SM_ Try.func21 (by kernel_rfl) rfl (Nat.le_of_ble_eq_true rfl) (Nat.le_succ 1) ?_
  show avc Try.prog SP _ _ _ _ _ _
  dsimp only [avc, startS, Array.toList, Try.f21]
  repeat' ((try conv => whnf) <;> (first | (refine Hold.mk ?_) | (refine And.intro (fun _ => ?_) (fun h => Bool.noConfusion h)) | (refine And.intro (fun h => Bool.noConfusion h) (fun _ => ?_)) | (refine And.intro (Nat.le_of_ble_eq_true rfl) ?_) | (refine And.intro (fun _ => ?_) (fun h => Bool.noConfusion ((beq_self_eq_true _).symm.trans h))) | (refine And.intro (fun h => Bool.noConfusion ((bne_self_eq_false _).symm.trans h)) (fun _ => ?_)) | (refine And.intro (fun h => Bool.noConfusion ((beq_self_eq_true _).symm.trans h)) (fun _ => ?_)) | (refine And.intro (fun _ => ?_) (fun h => Bool.noConfusion ((bne_self_eq_false _).symm.trans h))) | (refine And.intro (show inR _ from ⟨by omega, by omega⟩) ?_) | (refine ⟨_, _, _, cok, ?_⟩) | (refine ⟨_, _, _, cu, ?_⟩) | (refine ⟨[], [0, 1, 3, 7, 0, 16, 0, 64, 0, 448, 0, 1024, 3072, 7168, 0, 16384, 64512, 130048, 0, 523264, 1048512, 2097151, 4194303], len_ok rfl (by kernel_rfl), ?_⟩) | (exact True.intro) | (refine And.intro (show eqT _ _ = true by kernel_rfl) ?_) | (refine And.intro rfl ?_) | (refine And.intro (And.intro (Nat.le_of_ble_eq_true rfl) rfl) ?_) | (refine And.intro (And.intro rfl rfl) ?_) | (refine And.intro (And.intro rfl (And.intro rfl rfl)) ?_) | (exact And.intro rfl (And.intro rfl rfl)) | (exact And.intro rfl rfl) | (refine br_lt ?_ ?_ <;> intro hBr <;> (first | (exfalso; omega) | (exfalso; contradiction) | (exfalso; exact hBr rfl) | skip)) | (refine br_lt_ ?_ ?_ <;> intro hBr <;> (first | (exfalso; omega) | (exfalso; contradiction) | (exfalso; exact hBr rfl) | skip)) | (refine br_le ?_ ?_ <;> intro hBr <;> (first | (exfalso; omega) | (exfalso; contradiction) | (exfalso; exact hBr rfl) | skip)) | (refine br_le_ ?_ ?_ <;> intro hBr <;> (first | (exfalso; omega) | (exfalso; contradiction) | (exfalso; exact hBr rfl) | skip)) | (refine br_eq ?_ ?_ <;> intro hBr <;> (first | (exfalso; omega) | (exfalso; contradiction) | (exfalso; exact hBr rfl) | skip)) | (refine br_eq_ ?_ ?_ <;> intro hBr <;> (first | (exfalso; omega) | (exfalso; contradiction) | (exfalso; exact hBr rfl) | skip)) | (refine br_seq ?_ ?_ <;> intro hBr <;> (first | (exfalso; omega) | (exfalso; contradiction) | (exfalso; exact hBr rfl) | skip)) | (refine br_seq_ ?_ ?_ <;> intro hBr <;> (first | (exfalso; omega) | (exfalso; contradiction) | (exfalso; exact hBr rfl) | skip)) | (refine br_not ?_) | (refine br_not_ ?_) | (refine br_and ?_) | (refine br_and_ ?_) | (refine And.intro (by omega) ?_) | (refine ⟨_, wrap_i64 (by omega), ?_⟩) | (refine ⟨_, wrap_u64 (by omega) (by omega), ?_⟩) | (refine ⟨_, wrap_u8 (by omega) (by omega), ?_⟩) | (refine ⟨_, wrap_u32 (by omega) (by omega), ?_⟩) | (refine ⟨_, wrap_u16 (by omega) (by omega), ?_⟩) | (refine ⟨_, rfl, ?_⟩) | (exact rfl)))
  refine ⟨[14, 12, 13, 3, 0], [], fun vs bl => ∃ (i : Nat) (C : List AV) (M : List Key), i ≤ P.length ∧ M = keepL ⟨k, t, c⟩ 0 (P.take i) U0 ∧ C = M.map T ∧ (vs = [Z i, .vf P.length (wrC P), Z P.length, .ptr 0 0, .ptr 1 0] ∧ bl = [planB ⟨k, t, c⟩, headN 2 L.length nilA w, ⟨C, some 9, false, true⟩]), fun vs bl => match vs with | .ex (.int _ i) :: _ => P.length - i.toNat | _ => 0, ?_, ?_⟩
  · exact ⟨0, _, U0, by omega, rfl, rfl, rfl, rfl⟩
  rintro vs bl ⟨i, C, M, hi, hM, hC, rfl, rfl⟩
  have hML : M.length = L.length := by rw [hM, keepL_len, hl]
  have hMs : Sec M := by rw [hM]; exact Sec.keep _ 0 hs (fun x hx => hin x (List.mem_of_mem_take hx)) rfl
  by_cases hlt : i < P.length
  · have hw := wrW hlt
    have hx := hin _ (List.getElem_mem hlt)
    have cf := front_raw k t c i hk
    have hf := frontI_in ⟨k, t, c⟩ i
    have hn : M.set P[i].1 (ovl (fN ⟨k, t, c⟩ i) P[i].2.1 (M[P[i].1]?.getD [])) = keepL ⟨k, t, c⟩ 0 (P.take (i + 1)) U0 := by
      rw [List.take_add_one, List.getElem?_eq_getElem hlt]
      show _ = keepL _ 0 (P.take i ++ [P[i]]) U0
      rw [keepL_app, ← hM, List.length_take, Nat.min_eq_left (by omega), Nat.zero_add]
    have hat := secAt (L := M) (i := P[i].1) (by omega)
    have hss := secSet M P[i].1 (ovl (fN ⟨k, t, c⟩ i) P[i].2.1 (M[P[i].1]?.getD []))
    have hidx := secIdx (L := M) (a := P[i].1) (by omega)
    have hMi : (M[P[i].1]'(by omega)).length = 64 := hMs _ (List.getElem_mem _)
    rw [secGet (by omega)] at hn hss
    generalize M[P[i].1]'(by omega) = s at hn hss hat hMi
    have ho := ovl_bs (frontI ⟨k, t, c⟩ i) hf.1 hf.2 P[i].2.1 s hx.2.1 hMi
    have e1 : (bs P[i].2.1).size = 64 := (bs_size _).trans hx.2.1
    have e2 : (bs s).size = 64 := (bs_size _).trans hMi
    have hx1 : P[i].1 < L.length := by omega
    have hz : ((bs P[i].2.1).extract (0 : Int).toNat (frontI ⟨k, t, c⟩ i).toNat).size + ((bs s).extract (frontI ⟨k, t, c⟩ i).toNat ((bs s).size : Int).toNat).size ≤ 9223372036854775807 := by
      rw [← ByteArray.size_append, ho, bs_size, ovl_len hx.2.1 hMi (by omega)]; omega
    unfold fN at hn hss
    rw [← hC] at hat hss hidx
    change setL _ _ [AV.ex (Value.string (bs _))] = _ at hss
    rw [← ho] at hss
    have hdec : P.length - ((i : Int) + 1).toNat < P.length - (i : Int).toNat := by omega
    generalize P[i].1 = a at hw hn hat hss hidx hx1
    generalize P[i].2.1 = tx at hw hn hss e1 ho hz
    generalize P[i].2.2 = v at hw
    generalize frontI ⟨k, t, c⟩ i = f at cf hf hn hss ho hz
    clear hin hs cok cu hM hC hx hMs
    obtain ⟨f0, f1⟩ := hf
    repeat' ((try conv => whnf) <;> (first | (refine Hold.mk ?_) | (refine And.intro (fun _ => ?_) (fun h => Bool.noConfusion h)) | (refine And.intro (fun h => Bool.noConfusion h) (fun _ => ?_)) | (refine And.intro (Nat.le_of_ble_eq_true rfl) ?_) | (refine And.intro (fun _ => ?_) (fun h => Bool.noConfusion ((beq_self_eq_true _).symm.trans h))) | (refine And.intro (fun h => Bool.noConfusion ((bne_self_eq_false _).symm.trans h)) (fun _ => ?_)) | (refine And.intro (fun h => Bool.noConfusion ((beq_self_eq_true _).symm.trans h)) (fun _ => ?_)) | (refine And.intro (fun _ => ?_) (fun h => Bool.noConfusion ((bne_self_eq_false _).symm.trans h))) | (refine And.intro (show inR _ from ⟨by omega, by omega⟩) ?_) | (refine ⟨_, hw, ?_⟩) | (refine ⟨_, cf, ?_⟩) | (refine ⟨_, hat, ?_⟩) | (refine And.intro hidx ?_) | (refine And.intro hz ?_) | (refine ⟨[], [0, 1, 3, 7, 0, 16, 0, 64, 0, 448, 0, 1024, 3072, 7168, 0, 16384, 64512, 130048, 0, 523264, 1048512, 2097151, 4194303], len_ok rfl (by kernel_rfl), ?_⟩) | (exact True.intro) | (refine And.intro (show eqT _ _ = true by kernel_rfl) ?_) | (refine And.intro rfl ?_) | (refine And.intro (And.intro (Nat.le_of_ble_eq_true rfl) rfl) ?_) | (refine And.intro (And.intro rfl rfl) ?_) | (refine And.intro (And.intro rfl (And.intro rfl rfl)) ?_) | (exact And.intro rfl (And.intro rfl rfl)) | (exact And.intro rfl rfl) | (refine br_lt ?_ ?_ <;> intro hBr <;> (first | (exfalso; omega) | (exfalso; contradiction) | (exfalso; exact hBr rfl) | skip)) | (refine br_lt_ ?_ ?_ <;> intro hBr <;> (first | (exfalso; omega) | (exfalso; contradiction) | (exfalso; exact hBr rfl) | skip)) | (refine br_le ?_ ?_ <;> intro hBr <;> (first | (exfalso; omega) | (exfalso; contradiction) | (exfalso; exact hBr rfl) | skip)) | (refine br_le_ ?_ ?_ <;> intro hBr <;> (first | (exfalso; omega) | (exfalso; contradiction) | (exfalso; exact hBr rfl) | skip)) | (refine br_eq ?_ ?_ <;> intro hBr <;> (first | (exfalso; omega) | (exfalso; contradiction) | (exfalso; exact hBr rfl) | skip)) | (refine br_eq_ ?_ ?_ <;> intro hBr <;> (first | (exfalso; omega) | (exfalso; contradiction) | (exfalso; exact hBr rfl) | skip)) | (refine br_seq ?_ ?_ <;> intro hBr <;> (first | (exfalso; omega) | (exfalso; contradiction) | (exfalso; exact hBr rfl) | skip)) | (refine br_seq_ ?_ ?_ <;> intro hBr <;> (first | (exfalso; omega) | (exfalso; contradiction) | (exfalso; exact hBr rfl) | skip)) | (refine br_not ?_) | (refine br_not_ ?_) | (refine br_and ?_) | (refine br_and_ ?_) | (refine And.intro (by omega) ?_) | (refine ⟨_, wrap_i64 (by omega), ?_⟩) | (refine ⟨_, wrap_u64 (by omega) (by omega), ?_⟩) | (refine ⟨_, wrap_u8 (by omega) (by omega), ?_⟩) | (refine ⟨_, wrap_u32 (by omega) (by omega), ?_⟩) | (refine ⟨_, wrap_u16 (by omega) (by omega), ?_⟩) | (refine ⟨_, rfl, ?_⟩) | (exact rfl)))
    exact ⟨⟨i + 1, _, _, by omega, hn, hss, rfl, rfl⟩, hdec⟩
  · obtain rfl : i = P.length := by omega
    rw [List.take_length] at hM
    have e : dsk .nil (keepL ⟨k, t, c⟩ 0 P U0) [] w = [headB L.length nilA w, ⟨C, some 9, false, true⟩] := by
      show [headB _ _ _, (⟨(keepL ⟨k, t, c⟩ 0 P U0).map T, _, _, _⟩ : ABlk)] = _
      rw [← hM, ← hC, hML]
    rw [e]
    clear hM hC e hin hs cok cu
    repeat' ((try conv => whnf) <;> (first | (refine Hold.mk ?_) | (refine And.intro (fun _ => ?_) (fun h => Bool.noConfusion h)) | (refine And.intro (fun h => Bool.noConfusion h) (fun _ => ?_)) | (refine And.intro (Nat.le_of_ble_eq_true rfl) ?_) | (refine And.intro (fun _ => ?_) (fun h => Bool.noConfusion ((beq_self_eq_true _).symm.trans h))) | (refine And.intro (fun h => Bool.noConfusion ((bne_self_eq_false _).symm.trans h)) (fun _ => ?_)) | (refine And.intro (fun h => Bool.noConfusion ((beq_self_eq_true _).symm.trans h)) (fun _ => ?_)) | (refine And.intro (fun _ => ?_) (fun h => Bool.noConfusion ((bne_self_eq_false _).symm.trans h))) | (refine And.intro (show inR _ from ⟨by omega, by omega⟩) ?_) | (refine ⟨[], [0, 1, 3, 7, 0, 16, 0, 64, 0, 448, 0, 1024, 3072, 7168, 0, 16384, 64512, 130048, 0, 523264, 1048512, 2097151, 4194303], len_ok rfl (by kernel_rfl), ?_⟩) | (exact True.intro) | (refine And.intro (show eqT _ _ = true by kernel_rfl) ?_) | (refine And.intro rfl ?_) | (refine And.intro (And.intro (Nat.le_of_ble_eq_true rfl) rfl) ?_) | (refine And.intro (And.intro rfl rfl) ?_) | (refine And.intro (And.intro rfl (And.intro rfl rfl)) ?_) | (exact And.intro rfl (And.intro rfl rfl)) | (exact And.intro rfl rfl) | (refine br_lt ?_ ?_ <;> intro hBr <;> (first | (exfalso; omega) | (exfalso; contradiction) | (exfalso; exact hBr rfl) | skip)) | (refine br_lt_ ?_ ?_ <;> intro hBr <;> (first | (exfalso; omega) | (exfalso; contradiction) | (exfalso; exact hBr rfl) | skip)) | (refine br_le ?_ ?_ <;> intro hBr <;> (first | (exfalso; omega) | (exfalso; contradiction) | (exfalso; exact hBr rfl) | skip)) | (refine br_le_ ?_ ?_ <;> intro hBr <;> (first | (exfalso; omega) | (exfalso; contradiction) | (exfalso; exact hBr rfl) | skip)) | (refine br_eq ?_ ?_ <;> intro hBr <;> (first | (exfalso; omega) | (exfalso; contradiction) | (exfalso; exact hBr rfl) | skip)) | (refine br_eq_ ?_ ?_ <;> intro hBr <;> (first | (exfalso; omega) | (exfalso; contradiction) | (exfalso; exact hBr rfl) | skip)) | (refine br_seq ?_ ?_ <;> intro hBr <;> (first | (exfalso; omega) | (exfalso; contradiction) | (exfalso; exact hBr rfl) | skip)) | (refine br_seq_ ?_ ?_ <;> intro hBr <;> (first | (exfalso; omega) | (exfalso; contradiction) | (exfalso; exact hBr rfl) | skip)) | (refine br_not ?_) | (refine br_not_ ?_) | (refine br_and ?_) | (refine br_and_ ?_) | (refine And.intro (by omega) ?_) | (refine ⟨_, wrap_i64 (by omega), ?_⟩) | (refine ⟨_, wrap_u64 (by omega) (by omega), ?_⟩) | (refine ⟨_, wrap_u8 (by omega) (by omega), ?_⟩) | (refine ⟨_, wrap_u32 (by omega) (by omega), ?_⟩) | (refine ⟨_, wrap_u16 (by omega) (by omega), ?_⟩) | (refine ⟨_, rfl, ?_⟩) | (exact rfl)))
theorem dcrash_ok (q : Pd) (L : List Key) (P : List Wr) (w : Int) (p : Plan) (hk : p.keep < 18446744073709551616) (hq : PdOk q P) (hP : P.length ≤ 1000000) (hin : WrOk P L.length) (hs : Sec L) :
    SM 21 [.ptr 0 0, planA p] (dsk q L P w) [.ptr 0 0] (Z 0) (dsk .nil (keepL p 0 P (undoL P L)) [] w) := by
  have cok := dok_ok q L P w
  have cu := dundo_ok q L P w hq hP (fun x hx => (hin x hx).1)
  have hsu := Sec.undo hs hin
  have hul := undoL_len P L
  cases q with
  | nil =>
    have hq : P = [] := hq
    subst hq
    refine SM_ Try.func21 (by kernel_rfl) rfl (Nat.le_of_ble_eq_true rfl) (Nat.le_succ 1) ?_
    show avc Try.prog SP _ _ _ _ _ _
    dsimp only [avc, startS, Array.toList, Try.f21]
    repeat' ((try conv => whnf) <;> (first | (refine Hold.mk ?_) | (refine And.intro (fun _ => ?_) (fun h => Bool.noConfusion h)) | (refine And.intro (fun h => Bool.noConfusion h) (fun _ => ?_)) | (refine And.intro (Nat.le_of_ble_eq_true rfl) ?_) | (refine And.intro (fun _ => ?_) (fun h => Bool.noConfusion ((beq_self_eq_true _).symm.trans h))) | (refine And.intro (fun h => Bool.noConfusion ((bne_self_eq_false _).symm.trans h)) (fun _ => ?_)) | (refine And.intro (fun h => Bool.noConfusion ((beq_self_eq_true _).symm.trans h)) (fun _ => ?_)) | (refine And.intro (fun _ => ?_) (fun h => Bool.noConfusion ((bne_self_eq_false _).symm.trans h))) | (refine And.intro (show inR _ from ⟨by omega, by omega⟩) ?_) | (refine ⟨_, _, _, cok, ?_⟩) | (refine ⟨_, _, _, cu, ?_⟩) | (refine ⟨[], [0, 1, 3, 7, 0, 16, 0, 64, 0, 448, 0, 1024, 3072, 7168, 0, 16384, 64512, 130048, 0, 523264, 1048512, 2097151, 4194303], len_ok rfl (by kernel_rfl), ?_⟩) | (exact True.intro) | (refine And.intro (show eqT _ _ = true by kernel_rfl) ?_) | (refine And.intro rfl ?_) | (refine And.intro (And.intro (Nat.le_of_ble_eq_true rfl) rfl) ?_) | (refine And.intro (And.intro rfl rfl) ?_) | (refine And.intro (And.intro rfl (And.intro rfl rfl)) ?_) | (exact And.intro rfl (And.intro rfl rfl)) | (exact And.intro rfl rfl) | (refine br_lt ?_ ?_ <;> intro hBr <;> (first | (exfalso; omega) | (exfalso; contradiction) | (exfalso; exact hBr rfl) | skip)) | (refine br_lt_ ?_ ?_ <;> intro hBr <;> (first | (exfalso; omega) | (exfalso; contradiction) | (exfalso; exact hBr rfl) | skip)) | (refine br_le ?_ ?_ <;> intro hBr <;> (first | (exfalso; omega) | (exfalso; contradiction) | (exfalso; exact hBr rfl) | skip)) | (refine br_le_ ?_ ?_ <;> intro hBr <;> (first | (exfalso; omega) | (exfalso; contradiction) | (exfalso; exact hBr rfl) | skip)) | (refine br_eq ?_ ?_ <;> intro hBr <;> (first | (exfalso; omega) | (exfalso; contradiction) | (exfalso; exact hBr rfl) | skip)) | (refine br_eq_ ?_ ?_ <;> intro hBr <;> (first | (exfalso; omega) | (exfalso; contradiction) | (exfalso; exact hBr rfl) | skip)) | (refine br_seq ?_ ?_ <;> intro hBr <;> (first | (exfalso; omega) | (exfalso; contradiction) | (exfalso; exact hBr rfl) | skip)) | (refine br_seq_ ?_ ?_ <;> intro hBr <;> (first | (exfalso; omega) | (exfalso; contradiction) | (exfalso; exact hBr rfl) | skip)) | (refine br_not ?_) | (refine br_not_ ?_) | (refine br_and ?_) | (refine br_and_ ?_) | (refine And.intro (by omega) ?_) | (refine ⟨_, wrap_i64 (by omega), ?_⟩) | (refine ⟨_, wrap_u64 (by omega) (by omega), ?_⟩) | (refine ⟨_, wrap_u8 (by omega) (by omega), ?_⟩) | (refine ⟨_, wrap_u32 (by omega) (by omega), ?_⟩) | (refine ⟨_, wrap_u16 (by omega) (by omega), ?_⟩) | (refine ⟨_, rfl, ?_⟩) | (exact rfl)))
    refine ⟨[14, 12, 13, 3, 0], [], fun vs bl => vs = [Z 0, nilA, Z 0, .ptr 0 0, .ptr 1 0] ∧ bl = [planB p, headN 2 L.length nilA w, secB L], fun vs bl => 0, ⟨rfl, rfl⟩, ?_⟩
    rintro vs bl ⟨rfl, rfl⟩
    repeat' ((try conv => whnf) <;> (first | (refine Hold.mk ?_) | (refine And.intro (fun _ => ?_) (fun h => Bool.noConfusion h)) | (refine And.intro (fun h => Bool.noConfusion h) (fun _ => ?_)) | (refine And.intro (Nat.le_of_ble_eq_true rfl) ?_) | (refine And.intro (fun _ => ?_) (fun h => Bool.noConfusion ((beq_self_eq_true _).symm.trans h))) | (refine And.intro (fun h => Bool.noConfusion ((bne_self_eq_false _).symm.trans h)) (fun _ => ?_)) | (refine And.intro (fun h => Bool.noConfusion ((beq_self_eq_true _).symm.trans h)) (fun _ => ?_)) | (refine And.intro (fun _ => ?_) (fun h => Bool.noConfusion ((bne_self_eq_false _).symm.trans h))) | (refine And.intro (show inR _ from ⟨by omega, by omega⟩) ?_) | (refine ⟨[], [0, 1, 3, 7, 0, 16, 0, 64, 0, 448, 0, 1024, 3072, 7168, 0, 16384, 64512, 130048, 0, 523264, 1048512, 2097151, 4194303], len_ok rfl (by kernel_rfl), ?_⟩) | (exact True.intro) | (refine And.intro (show eqT _ _ = true by kernel_rfl) ?_) | (refine And.intro rfl ?_) | (refine And.intro (And.intro (Nat.le_of_ble_eq_true rfl) rfl) ?_) | (refine And.intro (And.intro rfl rfl) ?_) | (refine And.intro (And.intro rfl (And.intro rfl rfl)) ?_) | (exact And.intro rfl (And.intro rfl rfl)) | (exact And.intro rfl rfl) | (refine br_lt ?_ ?_ <;> intro hBr <;> (first | (exfalso; omega) | (exfalso; contradiction) | (exfalso; exact hBr rfl) | skip)) | (refine br_lt_ ?_ ?_ <;> intro hBr <;> (first | (exfalso; omega) | (exfalso; contradiction) | (exfalso; exact hBr rfl) | skip)) | (refine br_le ?_ ?_ <;> intro hBr <;> (first | (exfalso; omega) | (exfalso; contradiction) | (exfalso; exact hBr rfl) | skip)) | (refine br_le_ ?_ ?_ <;> intro hBr <;> (first | (exfalso; omega) | (exfalso; contradiction) | (exfalso; exact hBr rfl) | skip)) | (refine br_eq ?_ ?_ <;> intro hBr <;> (first | (exfalso; omega) | (exfalso; contradiction) | (exfalso; exact hBr rfl) | skip)) | (refine br_eq_ ?_ ?_ <;> intro hBr <;> (first | (exfalso; omega) | (exfalso; contradiction) | (exfalso; exact hBr rfl) | skip)) | (refine br_seq ?_ ?_ <;> intro hBr <;> (first | (exfalso; omega) | (exfalso; contradiction) | (exfalso; exact hBr rfl) | skip)) | (refine br_seq_ ?_ ?_ <;> intro hBr <;> (first | (exfalso; omega) | (exfalso; contradiction) | (exfalso; exact hBr rfl) | skip)) | (refine br_not ?_) | (refine br_not_ ?_) | (refine br_and ?_) | (refine br_and_ ?_) | (refine And.intro (by omega) ?_) | (refine ⟨_, wrap_i64 (by omega), ?_⟩) | (refine ⟨_, wrap_u64 (by omega) (by omega), ?_⟩) | (refine ⟨_, wrap_u8 (by omega) (by omega), ?_⟩) | (refine ⟨_, wrap_u32 (by omega) (by omega), ?_⟩) | (refine ⟨_, wrap_u16 (by omega) (by omega), ?_⟩) | (refine ⟨_, rfl, ?_⟩) | (exact rfl)))
  | row fz => exact crash_row fz L (undoL P L) P w p.keep p.torn p.cut hk hP (by rw [hul]; exact hin) hsu hul cok (by have := cu; simp only [undoB, undoR, hul] at this; exact this)
  | sh => exact crash_sh L (undoL P L) P w p.keep p.torn p.cut hk hP (by rw [hul]; exact hin) hsu hul cok (by have := cu; simp only [undoB, undoR, hul] at this; exact this)
end Go.Proofs.Ytdjdcpbakeahcaa.Av
