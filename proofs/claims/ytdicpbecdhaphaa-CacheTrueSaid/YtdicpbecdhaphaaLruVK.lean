/- lru: New and Drop; what is told of one that nobody made (for LruK). No conditions but those on lengths. -/
import Derived.Test.YtdicpbecdhaphaaLruPK
import Derived.Test.YtdicpbecdhaphaaAuto
namespace Go.Proofs.Ytdicpbecdhaphaa.Av.LruK
open Go Go.RowKit Pre
set_option linter.unusedVariables false
set_option linter.unusedSimpArgs false
set_option maxRecDepth 100000
set_option maxHeartbeats 1000000
abbrev nilP : AV := .ex (.pointer none)
abbrev nobB : ABlk := ⟨[Z 0, .ex (.map none), nilP], none, false, true⟩
theorem ok_nil : SM 106 [nilP] [] [] (B false) [] := by
  refine SM_ Try.func106 (by kernel_rfl) rfl (Nat.le_of_ble_eq_true rfl) (Nat.zero_le _) ?_
  show avc Try.prog SP _ _ _ _ _ _
  dsimp only [avc, startS, Array.toList, Try.f106]
  exact Av.W
theorem ok_zero : SM 106 [.ptr 0 0] [nobB] [.ptr 0 0] (B false) [nobB] := by
  refine SM_ Try.func106 (by kernel_rfl) rfl (Nat.le_of_ble_eq_true rfl) (Nat.succ_le_succ (Nat.zero_le _)) ?_
  show avc Try.prog SP _ _ _ _ _ _
  dsimp only [avc, startS, Array.toList, Try.f106]
  exact Av.W
theorem put_nil (k : List UInt8) (v : VT) : SM 109 [nilP, T k, .ex (vA v)] [] [] (.tup [T [], B false]) [] := by
  refine SM_ Try.func109 (by kernel_rfl) rfl (Nat.le_of_ble_eq_true rfl) (Nat.zero_le _) ?_
  show avc Try.prog SP _ _ _ _ _ _
  dsimp only [avc, startS, Array.toList, Try.f109]
  have hW0 := ok_nil
  have hW1 : Av.Mk 10 [0,1,3,7,15,0,32,96,224,511] := ⟨⟩
  exact Av.W
theorem put_zero (k : List UInt8) (v : VT) : SM 109 [.ptr 0 0, T k, .ex (vA v)] [nobB] [.ptr 0 0] (.tup [T [], B false]) [nobB] := by
  refine SM_ Try.func109 (by kernel_rfl) rfl (Nat.le_of_ble_eq_true rfl) (Nat.succ_le_succ (Nat.zero_le _)) ?_
  show avc Try.prog SP _ _ _ _ _ _
  dsimp only [avc, startS, Array.toList, Try.f109]
  have hW2 := ok_zero
  have hW3 : Av.Mk 10 [0,1,3,7,15,0,32,96,224,511] := ⟨⟩
  exact Av.W
theorem peek_nil (k : List UInt8) : SM 110 [nilP, T k] [] [] (.tup [.ex (.agg #[.string ⟨#[]⟩, .bool false]), B false]) [] := by
  refine SM_ Try.func110 (by kernel_rfl) rfl (Nat.le_of_ble_eq_true rfl) (Nat.zero_le _) ?_
  show avc Try.prog SP _ _ _ _ _ _
  dsimp only [avc, startS, Array.toList, Try.f110]
  have hW4 := ok_nil
  exact Av.W
theorem peek_zero (k : List UInt8) : SM 110 [.ptr 0 0, T k] [nobB] [.ptr 0 0] (.tup [.ex (.agg #[.string ⟨#[]⟩, .bool false]), B false]) [nobB] := by
  refine SM_ Try.func110 (by kernel_rfl) rfl (Nat.le_of_ble_eq_true rfl) (Nat.succ_le_succ (Nat.zero_le _)) ?_
  show avc Try.prog SP _ _ _ _ _ _
  dsimp only [avc, startS, Array.toList, Try.f110]
  have hW5 := ok_zero
  exact Av.W
theorem get_nil (k : List UInt8) : SM 86 [nilP, T k] [] [] (.tup [.ex (.agg #[.string ⟨#[]⟩, .bool false]), B false]) [] := by
  refine SM_ Try.func86 (by kernel_rfl) rfl (Nat.le_of_ble_eq_true rfl) (Nat.zero_le _) ?_
  show avc Try.prog SP _ _ _ _ _ _
  dsimp only [avc, startS, Array.toList, Try.f86]
  have hW6 := peek_nil k
  exact Av.W
theorem get_zero (k : List UInt8) : SM 86 [.ptr 0 0, T k] [nobB] [.ptr 0 0] (.tup [.ex (.agg #[.string ⟨#[]⟩, .bool false]), B false]) [nobB] := by
  refine SM_ Try.func86 (by kernel_rfl) rfl (Nat.le_of_ble_eq_true rfl) (Nat.succ_le_succ (Nat.zero_le _)) ?_
  show avc Try.prog SP _ _ _ _ _ _
  dsimp only [avc, startS, Array.toList, Try.f86]
  have hW7 := peek_zero k
  exact Av.W
theorem del_nil (k : List UInt8) : SM 82 [nilP, T k] [] [] (B false) [] := by
  refine SM_ Try.func82 (by kernel_rfl) rfl (Nat.le_of_ble_eq_true rfl) (Nat.zero_le _) ?_
  show avc Try.prog SP _ _ _ _ _ _
  dsimp only [avc, startS, Array.toList, Try.f82]
  have hW8 := ok_nil
  exact Av.W
theorem del_zero (k : List UInt8) : SM 82 [.ptr 0 0, T k] [nobB] [.ptr 0 0] (B false) [nobB] := by
  refine SM_ Try.func82 (by kernel_rfl) rfl (Nat.le_of_ble_eq_true rfl) (Nat.succ_le_succ (Nat.zero_le _)) ?_
  show avc Try.prog SP _ _ _ _ _ _
  dsimp only [avc, startS, Array.toList, Try.f82]
  have hW9 := ok_zero
  exact Av.W
theorem clear_nil : SM 84 [nilP] [] [] (.tup []) [] := by
  refine SM_ Try.func84 (by kernel_rfl) rfl (Nat.le_of_ble_eq_true rfl) (Nat.zero_le _) ?_
  show avc Try.prog SP _ _ _ _ _ _
  dsimp only [avc, startS, Array.toList, Try.f84]
  have hW10 := ok_nil
  exact Av.W
theorem clear_zero : SM 84 [.ptr 0 0] [nobB] [.ptr 0 0] (.tup []) [nobB] := by
  refine SM_ Try.func84 (by kernel_rfl) rfl (Nat.le_of_ble_eq_true rfl) (Nat.succ_le_succ (Nat.zero_le _)) ?_
  show avc Try.prog SP _ _ _ _ _ _
  dsimp only [avc, startS, Array.toList, Try.f84]
  have hW11 := ok_zero
  exact Av.W
theorem len_nil : SM 88 [nilP] [] [] (Z 0) [] := by
  refine SM_ Try.func88 (by kernel_rfl) rfl (Nat.le_of_ble_eq_true rfl) (Nat.zero_le _) ?_
  show avc Try.prog SP _ _ _ _ _ _
  dsimp only [avc, startS, Array.toList, Try.f88]
  have hW12 := ok_nil
  exact Av.W
theorem len_zero : SM 88 [.ptr 0 0] [nobB] [.ptr 0 0] (Z 0) [nobB] := by
  refine SM_ Try.func88 (by kernel_rfl) rfl (Nat.le_of_ble_eq_true rfl) (Nat.succ_le_succ (Nat.zero_le _)) ?_
  show avc Try.prog SP _ _ _ _ _ _
  dsimp only [avc, startS, Array.toList, Try.f88]
  have hW13 := ok_zero
  exact Av.W
theorem most_nil : SM 104 [nilP] [] [] (Z 0) [] := by
  refine SM_ Try.func104 (by kernel_rfl) rfl (Nat.le_of_ble_eq_true rfl) (Nat.zero_le _) ?_
  show avc Try.prog SP _ _ _ _ _ _
  dsimp only [avc, startS, Array.toList, Try.f104]
  have hW14 := ok_nil
  exact Av.W
theorem most_zero : SM 104 [.ptr 0 0] [nobB] [.ptr 0 0] (Z 0) [nobB] := by
  refine SM_ Try.func104 (by kernel_rfl) rfl (Nat.le_of_ble_eq_true rfl) (Nat.succ_le_succ (Nat.zero_le _)) ?_
  show avc Try.prog SP _ _ _ _ _ _
  dsimp only [avc, startS, Array.toList, Try.f104]
  have hW15 := ok_zero
  exact Av.W
theorem keys_nil : SM 108 [nilP] [] [] (nilA) [] := by
  refine SM_ Try.func108 (by kernel_rfl) rfl (Nat.le_of_ble_eq_true rfl) (Nat.zero_le _) ?_
  show avc Try.prog SP _ _ _ _ _ _
  dsimp only [avc, startS, Array.toList, Try.f108]
  have hW16 := ok_nil
  exact Av.W
theorem keys_zero : SM 108 [.ptr 0 0] [nobB] [.ptr 0 0] (nilA) [nobB] := by
  refine SM_ Try.func108 (by kernel_rfl) rfl (Nat.le_of_ble_eq_true rfl) (Nat.succ_le_succ (Nat.zero_le _)) ?_
  show avc Try.prog SP _ _ _ _ _ _
  dsimp only [avc, startS, Array.toList, Try.f108]
  have hW17 := ok_zero
  exact Av.W
theorem fork_nil : SM 85 [nilP] [] [] (nilP) [] := by
  refine SM_ Try.func85 (by kernel_rfl) rfl (Nat.le_of_ble_eq_true rfl) (Nat.zero_le _) ?_
  show avc Try.prog SP _ _ _ _ _ _
  dsimp only [avc, startS, Array.toList, Try.f85]
  have hW18 := ok_nil
  have hW19 : Av.Mk 10 [0,0,2,6,14,0,32,96,224,511] := ⟨⟩
  exact Av.W
theorem fork_zero : SM 85 [.ptr 0 0] [nobB] [.ptr 0 0] (nilP) [nobB] := by
  refine SM_ Try.func85 (by kernel_rfl) rfl (Nat.le_of_ble_eq_true rfl) (Nat.succ_le_succ (Nat.zero_le _)) ?_
  show avc Try.prog SP _ _ _ _ _ _
  dsimp only [avc, startS, Array.toList, Try.f85]
  have hW20 := ok_zero
  have hW21 : Av.Mk 10 [0,0,2,6,14,0,32,96,224,511] := ⟨⟩
  exact Av.W
theorem drop_nil (k : List UInt8) : SM 83 [nilP, T k] [] [] (Z 0) [] := by
  refine SM_ Try.func83 (by kernel_rfl) rfl (Nat.le_of_ble_eq_true rfl) (Nat.zero_le _) ?_
  show avc Try.prog SP _ _ _ _ _ _
  dsimp only [avc, startS, Array.toList, Try.f83]
  have hW22 := keys_nil
  refine Av.Wk ?_
  refine ⟨[11, 10, 5], [], fun vs bl => vs = [Z 0, Z 0, Z 0] ∧ bl = [], fun _ _ => 0, ⟨rfl, rfl⟩, ?_⟩
  rintro vs bl ⟨rfl, rfl⟩
  exact Av.W
theorem drop_zero (k : List UInt8) : SM 83 [.ptr 0 0, T k] [nobB] [.ptr 0 0] (Z 0) [nobB] := by
  refine SM_ Try.func83 (by kernel_rfl) rfl (Nat.le_of_ble_eq_true rfl) (Nat.succ_le_succ (Nat.zero_le _)) ?_
  show avc Try.prog SP _ _ _ _ _ _
  dsimp only [avc, startS, Array.toList, Try.f83]
  have hW23 := keys_zero
  refine Av.Wk ?_
  refine ⟨[11, 10, 5, 0], [], fun vs bl => vs = [Z 0, Z 0, Z 0, .ptr 0 0] ∧ bl = [nobB], fun _ _ => 0, ⟨rfl, rfl⟩, ?_⟩
  rintro vs bl ⟨rfl, rfl⟩
  exact Av.W
theorem new_yes (most : Nat) (h : most ≤ 64) : SM 80 [Z most] [] [] (.tup [.ptr 0 0, Z 0]) [Lr most []] := by
  have c := made_c most
  refine SM_ Try.func80 (by kernel_rfl) rfl (Nat.le_of_ble_eq_true rfl) (Nat.zero_le _) ?_
  show avc Try.prog SP _ _ _ _ _ _
  dsimp only [avc, startS, Array.toList, Try.f80]
  exact Av.W
theorem new_no (n : Int) (h : n < 0 ∨ 64 < n) : SM 80 [Z n] [] [] (.tup [nilP, Z 2]) [] := by
  refine SM_ Try.func80 (by kernel_rfl) rfl (Nat.le_of_ble_eq_true rfl) (Nat.zero_le _) ?_
  show avc Try.prog SP _ _ _ _ _ _
  dsimp only [avc, startS, Array.toList, Try.f80]
  exact Av.W
theorem hsS : sizeT Try.prog 9 = 1 := by kernel_rfl
theorem keyAt {xs : Xs} {i : Nat} (h : i < xs.length) : ((xs.map (·.1)).map T)[mulS (i : Int).toNat (sizeT Try.prog 9)]? = some (T xs[i].1) := by
  rw [hsS, mulS_eq, Int.toNat_natCast, Nat.mul_one, List.getElem?_map, List.getElem?_map, List.getElem?_eq_getElem h]; rfl
abbrev keysB (xs : Xs) : ABlk := ⟨(xs.map (·.1)).map T, some 9, false, true⟩
def DInv (most : Nat) (xs : Xs) (p : List UInt8) (vs : List AV) (bl : List ABlk) : Prop :=
  ∃ (i : Nat) (c : Int) (ys : Xs), i ≤ xs.length ∧ c + (dropX (xs.take i) p).length = i ∧ ys = stX xs p i ∧ (vs = [Z i, Z c, .sl 0 xs.length, Z xs.length, .ptr 1 0, T p] ∧ bl = [keysB xs, Lr most ys])
def muI (n : Nat) : List AV → List ABlk → Nat
  | .ex (.int _ i) :: _, _ => n - i.toNat
  | _, _ => 0
theorem drop_c (most : Nat) (xs : Xs) (p : List UInt8) (hn : xs.length ≤ 1000) (hd : NdX xs) (hk : KB xs) (hp : p.length ≤ 1000) :
    SM 83 [.ptr 0 0, T p] [Lr most xs] [.ptr 0 0] (Z ((xs.length : Int) - (dropX xs p).length)) [Lr most (dropX xs p)] := by
  have ck := keys_c most xs hn
  obtain ⟨R, hR⟩ : ∃ R, R = dropX xs p := ⟨_, rfl⟩
  rw [← hR]
  refine SM_ Try.func83 (by kernel_rfl) rfl (Nat.le_of_ble_eq_true rfl) (Nat.succ_le_succ (Nat.zero_le _)) ?_
  show avc Try.prog SP _ _ _ _ _ _
  dsimp only [avc, startS, Array.toList, Try.f83]
  refine Av.Wk ?_
  refine ⟨[11, 5, 9, 10, 0, 1], [], DInv most xs p, muI xs.length, ?_, ?_⟩
  · exact ⟨0, 0, xs, Nat.zero_le _, rfl, (st_zero xs p).symm, rfl, rfl⟩
  rintro vs bl ⟨i, c, ys, hi, hc, hy, rfl, rfl⟩
  have hml := len_drop_take xs p i
  by_cases hlt : i < xs.length
  · have h1 := keyAt hlt
    have hdec : muI xs.length [Z ((i : Int) + 1)] [] < muI xs.length [Z i] [] := by show xs.length - ((i : Int) + 1).toNat < xs.length - (i : Int).toNat; omega
    have hx := hk _ (List.getElem_mem hlt)
    have c1 := prefix_ok xs[i].1 p (by omega) (by omega)
    have c2 := del_c most ys xs[i].1
    cases hb : begins p xs[i].1 with
    | true =>
      obtain ⟨g1, g2, g3⟩ := st_go hd hlt hb
      rw [← hy] at g1 g2
      rw [g1] at c2
      rw [hb] at c1
      have fin : DInv most xs p [Z ((i : Int) + 1), Z (c + 1), .sl 0 xs.length, Z xs.length, .ptr 1 0, T p] [keysB xs, Lr most (wo ys xs[i].1)] := ⟨i + 1, _, _, by omega, by rw [g3]; omega, g2, rfl, rfl⟩
      clear hR hy g1 g2 g3
      exact Av.W
    | false =>
      rw [hb] at c1
      have g := drop_step (p := p) hlt
      rw [hb] at g
      have fin : DInv most xs p [Z ((i : Int) + 1), Z c, .sl 0 xs.length, Z xs.length, .ptr 1 0, T p] [keysB xs, Lr most ys] := ⟨i + 1, _, _, by omega, by rw [g, List.length_append]; show c + ((_ + 1 : Nat) : Int) = _; omega, by rw [hy]; exact (st_stay hlt hb).symm, rfl, rfl⟩
      clear hR hy g
      exact Av.W
  · obtain rfl : i = xs.length := by omega
    rw [st_all, ← hR] at hy
    rw [List.take_length, ← hR] at hc
    subst hy
    have e : (xs.length : Int) - ys.length = c := by omega
    rw [e]
    clear hR hc e hml
    exact Av.W
end Go.Proofs.Ytdicpbecdhaphaa.Av.LruK
