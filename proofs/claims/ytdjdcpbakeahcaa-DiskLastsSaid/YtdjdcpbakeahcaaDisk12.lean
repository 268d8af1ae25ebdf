/- disk: awake, walked. No conditions. -/
import Derived.Test.YtdjdcpbakeahcaaDisk6
namespace Go.Proofs.Ytdjdcpbakeahcaa.Av
open Go Go.RowKit
set_option linter.unusedVariables false
set_option linter.unusedSimpArgs false
set_option maxRecDepth 100000
set_option maxHeartbeats 4000000

theorem dawake_walk (a b z : Key) (hne : a ≠ b) (ca : SP 27 [T [97, 98]] (T a)) (cb : SP 27 [T [97]] (T b)) (cz : SP 27 [T []] (T z))
    (c1 : SM 28 [Z 2] [] [] (.tup [.ptr 0 0, Z 0]) (dsk .nil [z, z] [] 0)) (c2 : SM 28 [Z 0] [] [] (.tup [nilP, Z 2]) [])
    (c3 : SM 19 [.ptr 0 0, Z 0, T a] (dsk .nil [z, z] [] 0) [.ptr 0 0] (Z 0) (dsk (.row false) [a, z] [(0, a, z)] 1))
    (c4 : SM 19 [.ptr 0 0, Z 2, T z] (dsk (.row false) [a, z] [(0, a, z)] 1) [.ptr 0 0] (Z 8) (dsk (.row false) [a, z] [(0, a, z)] 1))
    (c5 : SM 19 [.ptr 0 0, Z 1, T [115, 104, 111, 114, 116]] (dsk (.row false) [a, z] [(0, a, z)] 1) [.ptr 0 0] (Z 2) (dsk (.row false) [a, z] [(0, a, z)] 1))
    (c6 : SM 17 [.ptr 0 0, Z 0] (dsk (.row false) [a, z] [(0, a, z)] 1) [.ptr 0 0] (.tup [T a, Z 0]) (dsk (.row false) [a, z] [(0, a, z)] 1))
    (c7 : SM 25 [.ptr 0 0] (dsk (.row false) [a, z] [(0, a, z)] 1) [.ptr 0 0] (.ptr 1 0) (dsk2 (.row true) [a, z] [(0, a, z)] 1 .sh [a, z] [(0, a, z)] 1))
    (c8 : SM 21 [.ptr 0 0, planA ⟨0, 0, 1⟩] (dsk (.row true) [a, z] [(0, a, z)] 1) [.ptr 0 0] (Z 0) (dsk .nil [b, z] [] 1))
    (c9 : SM 17 [.ptr 0 0, Z 0] (dsk .nil [b, z] [] 1) [.ptr 0 0] (.tup [T b, Z 0]) (dsk .nil [b, z] [] 1))
    (c10 : SM 22 [.ptr 0 0] (dsk .nil [b, z] [] 1) [.ptr 0 0] (Z 2) (dsk .nil [b, z] [] 1))
    (c11 : SM 23 [.ptr 0 0] (dsk .nil [b, z] [] 1) [.ptr 0 0] (Z 0) (dsk .nil [b, z] [] 1))
    (c12 : SM 24 [.ptr 0 0] (dsk .nil [b, z] [] 1) [.ptr 0 0] (Z 1) (dsk .nil [b, z] [] 1))
    (c13 : SM 23 [.ptr 0 0] (dsk .sh [a, z] [(0, a, z)] 1) [.ptr 0 0] (Z 1) (dsk .sh [a, z] [(0, a, z)] 1))
    (c14 : SM 26 [.ptr 0 0, .ptr 1 0] (dsk2 .sh [a, z] [(0, a, z)] 1 .nil [b, z] [] 1) [.ptr 0 0, .ptr 1 0] (B false) (dsk2 .sh [a, z] [(0, a, z)] 1 .nil [b, z] [] 1))
    (c15 : SM 25 [.ptr 0 0] (dsk .nil [b, z] [] 1) [.ptr 0 0] (.ptr 1 0) (dsk2 .nil [b, z] [] 1 .nil [b, z] [] 1))
    (c16 : SM 26 [.ptr 0 0, .ptr 1 0] (dsk2 .nil [b, z] [] 1 .nil [b, z] [] 1) [.ptr 0 0, .ptr 1 0] (B true) (dsk2 .nil [b, z] [] 1 .nil [b, z] [] 1)) :
    SP 15 [] (B true) := by
  refine S_ Try.func15 (by kernel_rfl) rfl (Nat.le_of_ble_eq_true rfl) ?_
  show avc Try.prog SP _ _ _ _ _ _
  dsimp only [avc, startS, Array.toList, Try.f15]
  repeat' ((try conv => whnf) <;> (first | (refine Hold.mk ?_) | (refine And.intro (fun _ => ?_) (fun h => Bool.noConfusion h)) | (refine And.intro (fun h => Bool.noConfusion h) (fun _ => ?_)) | (refine And.intro (Nat.le_of_ble_eq_true rfl) ?_) | (refine And.intro (fun _ => ?_) (fun h => Bool.noConfusion ((beq_self_eq_true _).symm.trans h))) | (refine And.intro (fun h => Bool.noConfusion ((bne_self_eq_false _).symm.trans h)) (fun _ => ?_)) | (refine And.intro (fun h => Bool.noConfusion ((beq_self_eq_true _).symm.trans h)) (fun _ => ?_)) | (refine And.intro (fun _ => ?_) (fun h => Bool.noConfusion ((bne_self_eq_false _).symm.trans h))) | (refine And.intro (show inR _ from ⟨by omega, by omega⟩) ?_) | (refine ⟨_, ca, ?_⟩) | (refine ⟨_, cb, ?_⟩) | (refine ⟨_, cz, ?_⟩) | (refine ⟨_, _, _, c1, ?_⟩) | (refine ⟨_, _, _, c2, ?_⟩) | (refine ⟨_, _, _, c3, ?_⟩) | (refine ⟨_, _, _, c4, ?_⟩) | (refine ⟨_, _, _, c5, ?_⟩) | (refine ⟨_, _, _, c6, ?_⟩) | (refine ⟨_, _, _, c7, ?_⟩) | (refine ⟨_, _, _, c8, ?_⟩) | (refine ⟨_, _, _, c9, ?_⟩) | (refine ⟨_, _, _, c10, ?_⟩) | (refine ⟨_, _, _, c11, ?_⟩) | (refine ⟨_, _, _, c12, ?_⟩) | (refine ⟨_, _, _, c13, ?_⟩) | (refine ⟨_, _, _, c14, ?_⟩) | (refine ⟨_, _, _, c15, ?_⟩) | (refine ⟨_, _, _, c16, ?_⟩) | (exact True.intro) | (refine And.intro (show eqT _ _ = true by kernel_rfl) ?_) | (refine And.intro rfl ?_) | (refine And.intro (And.intro (Nat.le_of_ble_eq_true rfl) rfl) ?_) | (refine And.intro (And.intro rfl rfl) ?_) | (refine And.intro (And.intro rfl (And.intro rfl rfl)) ?_) | (exact And.intro rfl (And.intro rfl rfl)) | (exact And.intro rfl rfl) | (refine br_lt ?_ ?_ <;> intro hBr <;> (first | (exfalso; omega) | (exfalso; contradiction) | (exfalso; exact hBr rfl) | skip)) | (refine br_lt_ ?_ ?_ <;> intro hBr <;> (first | (exfalso; omega) | (exfalso; contradiction) | (exfalso; exact hBr rfl) | skip)) | (refine br_le ?_ ?_ <;> intro hBr <;> (first | (exfalso; omega) | (exfalso; contradiction) | (exfalso; exact hBr rfl) | skip)) | (refine br_le_ ?_ ?_ <;> intro hBr <;> (first | (exfalso; omega) | (exfalso; contradiction) | (exfalso; exact hBr rfl) | skip)) | (refine br_eq ?_ ?_ <;> intro hBr <;> (first | (exfalso; omega) | (exfalso; contradiction) | (exfalso; exact hBr rfl) | skip)) | (refine br_eq_ ?_ ?_ <;> intro hBr <;> (first | (exfalso; omega) | (exfalso; contradiction) | (exfalso; exact hBr rfl) | skip)) | (refine br_seq ?_ ?_ <;> intro hBr <;> (first | (exfalso; omega) | (exfalso; contradiction) | (exfalso; exact hBr rfl) | skip)) | (refine br_seq_ ?_ ?_ <;> intro hBr <;> (first | (exfalso; omega) | (exfalso; contradiction) | (exfalso; exact hBr rfl) | skip)) | (refine br_not ?_) | (refine br_not_ ?_) | (refine br_and ?_) | (refine br_and_ ?_) | (refine And.intro (by omega) ?_) | (refine ⟨_, wrap_i64 (by omega), ?_⟩) | (refine ⟨_, wrap_u64 (by omega) (by omega), ?_⟩) | (refine ⟨_, wrap_u8 (by omega) (by omega), ?_⟩) | (refine ⟨_, wrap_u32 (by omega) (by omega), ?_⟩) | (refine ⟨_, wrap_u16 (by omega) (by omega), ?_⟩) | (refine ⟨_, rfl, ?_⟩) | (exact rfl)))
theorem dawake_ok : SP 15 [] (B true) := by
  have ca := full_ok [97, 98]
  have cb := full_ok [97]
  have cz := full_ok []
  have hz : fullK [] = zK := by kernel_rfl
  rw [hz] at cz
  have hb : ovl 1 (fullK [97, 98]) zK = fullK [97] := by kernel_rfl
  have hla := fullK_len [97, 98]
  have hlb := fullK_len [97]
  have hlz := zK_len
  have hne : fullK [97, 98] ≠ fullK [97] := fun h => by
    have : (fullK [97, 98])[1]? = (fullK [97])[1]? := by rw [h]
    exact absurd this (by decide)
  have c1 := dnew_ok (n := 2) (by omega) (by omega)
  have hn : newL 2 = [zK, zK] := rfl
  rw [hn] at c1
  generalize fullK [97, 98] = a at *
  generalize fullK [97] = b at *
  generalize zK = z at *
  have c3 := dwrite_yes .nil [z, z] [] 0 (i := 0) a (show 0 < 2 by omega) hla rfl (show 0 ≤ 1000 by omega) (by omega) (by omega)
  have c4 := dwrite_range (.row false) [a, z] [(0, a, z)] 1 (n := 2) z (.inr (show (2 : Int) ≤ 2 by omega))
  have c5 := dwrite_arg (.row false) [a, z] [(0, a, z)] 1 (n := 1) [115, 104, 111, 114, 116] (by omega) (show (1 : Int) < 2 by omega) (by rw [bs_size]; decide)
  have c6 := dread_yes (.row false) [a, z] [(0, a, z)] 1 (i := 0) (show 0 < 2 by omega)
  have c7 := dfork_ok (.row false) [a, z] [(0, a, z)] 1 trivial (show 1 ≤ 1000000 by omega) (show 2 ≤ 1000000 by omega)
  have hw : WrOk [(0, a, z)] [a, z].length := fun x hx => by
    rcases List.mem_singleton.1 hx with rfl
    exact ⟨show 0 < 2 by omega, hla, hlz⟩
  have hs : Sec [a, z] := fun x hx => by
    simp only [List.mem_cons, List.not_mem_nil, or_false] at hx
    rcases hx with rfl | rfl
    · exact hla
    · exact hlz
  have c8 := dcrash_ok (.row true) [a, z] [(0, a, z)] 1 ⟨0, 0, 1⟩ (by decide) trivial (show 1 ≤ 1000000 by omega) hw hs
  have hk : keepL ⟨0, 0, 1⟩ 0 [(0, a, z)] (undoL [(0, a, z)] [a, z]) = [b, z] := by
    show [ovl 1 a z, z] = _
    rw [hb]
  rw [hk] at c8
  have c9 := dread_yes .nil [b, z] [] 1 (i := 0) (show 0 < 2 by omega)
  have c10 := dsize_ok .nil [b, z] [] 1
  have c11 := dpending_ok .nil [b, z] [] 1 rfl
  have c12 := dwrites_ok .nil [b, z] [] 1
  have c13 := dpending_ok .sh [a, z] [(0, a, z)] 1 trivial
  have c14 := dsame_ok .sh [a, z] [(0, a, z)] 1 .nil [b, z] [] 1 (show 2 ≤ 1000000 by omega) rfl
  rw [decide_eq_false (fun h => hne (List.cons.inj h).1)] at c14
  have c15 := dfork_ok .nil [b, z] [] 1 rfl (show 0 ≤ 1000000 by omega) (show 2 ≤ 1000000 by omega)
  have c16 := dsame_ok .nil [b, z] [] 1 .nil [b, z] [] 1 (show 2 ≤ 1000000 by omega) rfl
  rw [decide_eq_true rfl] at c16
  exact dawake_walk a b z hne ca cb cz c1 (dnew_bad (.inl (by decide))) c3 c4 c5 c6 c7 c8 c9 c10 c11 c12 c13 c14 c15 c16
end Go.Proofs.Ytdjdcpbakeahcaa.Av
