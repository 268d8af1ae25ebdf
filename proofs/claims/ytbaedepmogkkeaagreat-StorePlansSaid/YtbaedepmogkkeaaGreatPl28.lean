/- What the claim stands on, Pl28: contracts of functions and plain facts. No conditions. -/
import Derived.Test.YtbaedepmogkkeaaGreatPl24
import Derived.Test.YtbaedepmogkkeaaGreatShelf
import Derived.Test.YtbaedepmogkkeaaGreatPl23
import Derived.Test.YtbaedepmogkkeaaGreatPl20
import Derived.Test.YtbaedepmogkkeaaGreatPl22
namespace Go.Proofs.YtbaedepmogkkeaaGreat.Av
open Go Go.RowKit
set_option linter.unusedVariables false
set_option linter.unusedSimpArgs false
set_option maxRecDepth 100000
theorem repeat_snd (l : List UInt8) (c : Nat) (hc : c ≤ 9223372036854775807) (hl : l.length * c ≤ 140737488355328) : SP 130 [T l, Z c] (T (Lib.repeatL l c)) := by
 have hd : (bs l).data.toList = l := by simp [bs]
 have hsz : (bs l).size = l.length := bs_size l
 refine sound_ex (vs := [.string (bs l), .int .i64 c]) Tryz.func130 (by kernel_rfl) rfl (fun w => ?_)
 have := Tryz.strings_Repeat (bs l) c w hc (by rw [hsz]; exact hl)
 rw [hd] at this
 exact this
theorem join_snd (L : List (List UInt8)) (sep : List UInt8) (hn : L.length ≤ 140737488355328) (hl : (Lib.join L sep).length ≤ 140737488355328) : SP 134 [.vs L.length (L.map T), T sep] (T (Lib.join L sep)) := by
 have hd : ∀ l : List UInt8, (bs l).data.toList = l := fun l => by simp [bs]
 refine ⟨enters Tryz.func134 (by kernel_rfl) rfl, fun w F xs hs hr hF => ?_⟩
 have h0 := hr 0 (by simp)
 have h1 := hr 1 (by simp)
 simp only [List.getElem_cons_zero, List.getElem_cons_succ] at h0 h1
 have h1 := h1.ex_inv
 have hx : ∃ v, xs = #[v, .string (bs sep)] ∧ xs.getD 0 undef = v := by
  have hs2 : xs.size = 2 := by simpa using hs
  refine ⟨xs.getD 0 undef, ?_, rfl⟩
  apply Array.ext
  ·rw [hs2]; rfl
  ·intro i hi hi2
   match i, hi with
   | 0, hi => simp [hi]
   | 1, hi =>
    have : xs.getD 1 undef = xs[1] := by simp [hi]
    rw [← this, h1]; rfl
 obtain ⟨v, rfl, hv⟩ := hx
 rw [hv] at h0
 rcases h0.vs_inv with ⟨q1, q2, a0, rfl⟩ | ⟨g, o, k, u, q1, rfl, q2⟩
 ·have hL : L = [] := List.eq_nil_of_length_eq_zero q1
  subst hL
  refine (Tryz.strings_Join_none a0 0 (bs sep) w).mono ?_
  rintro e w' ⟨rfl, rfl⟩
  exact ⟨_, F, rfl, Below.refl _ _, fun _ _ h => h, fun _ _ h => .inl h, .ex _ _⟩
 ·by_cases h0 : L.length = 0
  ·have hL : L = [] := List.eq_nil_of_length_eq_zero h0
   subst hL
   refine (Tryz.strings_Join_none (some ⟨g, o, none⟩) k (bs sep) w).mono ?_
   rintro e w' ⟨rfl, rfl⟩
   exact ⟨_, F, rfl, Below.refl _ _, fun _ _ h => h, fun _ _ h => .inl h, .ex _ _⟩
  ·have hcell : ∀ (j : Nat) x, (L.map bs)[j]? = some x → w.cell? ⟨g, o + j, none⟩ = some (.string x) := by
    intro j x hj
    have hlt : j < L.length := by have := (List.getElem?_eq_some_iff.1 hj).1; simpa using this
    have hj2 : j < (L.map T).length := by simpa using hlt
    have hr2 := q2.2 j hj2
    have e : (L.map T)[j] = AV.ex (.string (bs L[j])) := by simp
    rw [e] at hr2
    have hr2 := hr2.ex_inv
    simp [hlt] at hj
    rw [(q2.1 j hj2).2, hr2, hj]
   have hg : g < w.heap.size := by
    have hj2 : 0 < (L.map T).length := by simp; omega
    exact hF _ _ (q2.1 0 hj2).1
   have hmap : (L.map bs).map (fun x => x.data.toList) = L := by
    rw [List.map_map]
    conv => rhs; rw [← List.map_id L]
    apply List.map_congr_left
    intro l _
    exact hd l
   have := Tryz.strings_Join g o k (L.map bs) (bs sep) w hcell hg (by simpa using hn) (by simpa using q1) (by rw [hmap, hd]; exact hl)
   rw [hmap, hd, List.length_map] at this
   refine this.mono ?_
   rintro e w' ⟨rfl, hb⟩
   exact ⟨_, F, rfl, hb, fun _ _ h => h, fun _ _ h => .inl h, .ex _ _⟩
end Go.Proofs.YtbaedepmogkkeaaGreat.Av
namespace Go.Proofs.YtbaedepmogkkeaaGreat.Av
set_option maxHeartbeats 1000000
open Go Go.RowKit
set_option linter.unusedVariables false
set_option linter.unusedSimpArgs false
set_option maxRecDepth 100000
def sec (m : Nat) (q : List UInt8) : List UInt8 := Quill.numB 8 m ++ q ++ List.replicate (48 - q.length) 0 ++ Quill.numB 8 m
theorem rep0 (c : Nat) : Lib.repeatL [0] c = List.replicate c 0 := by
 have := Lib.repeatL_replicate 0 1 c
 simpa using this
theorem seal_yes (m : Nat) (q : List UInt8) (hm : m ≠ 0) (hm2 : m < 18446744073709551616) (hq : q.length ≤ 48) : SP 67 [U m, T q] (.tup [T (sec m q), Z 0]) := by
 have hsz := bs_size q
 have hN := Quill.numB_length 8 m
 have hc : SP 130 [.ex (.string (ByteArray.mk #[0])), Z (48 - ((bs q).size : Int))] (T (List.replicate (48 - q.length) 0)) := by
  have := repeat_snd [0] (48 - q.length) (by omega) (by simp; omega)
  rw [rep0] at this
  have e : ((48 - q.length : Nat) : Int) = 48 - ((bs q).size : Int) := by omega
  rw [e] at this
  exact this
 have a1 : (bs (Quill.numB 8 m)).size + (bs q).size ≤ 9223372036854775807 := by rw [bs_size, bs_size]; omega
 have a2 : (bs (Quill.numB 8 m) ++ bs q).size + (bs (List.replicate (48 - q.length) (0 : UInt8))).size ≤ 9223372036854775807 := by rw [bs_add, bs_size, bs_size]; simp; omega
 have a3 : (bs (Quill.numB 8 m) ++ bs q ++ bs (List.replicate (48 - q.length) (0 : UInt8))).size + (bs (Quill.numB 8 m)).size ≤ 9223372036854775807 := by rw [bs_add, bs_add, bs_size, bs_size]; simp; omega
 have hres : bs (Quill.numB 8 m) ++ bs q ++ bs (List.replicate (48 - q.length) (0 : UInt8)) ++ bs (Quill.numB 8 m) = bs (sec m q) := by rw [bs_add, bs_add, bs_add]; rfl
 refine S_ Tryz.func67 (by kernel_rfl) rfl (Nat.le_of_ble_eq_true rfl) ?_
 show avc Tryz.prog SP _ _ _ _ _ _
 dsimp only [avc, startS, Array.toList, Tryz.f67]
 repeat' ((try conv => whnf) <;> first | refine Av.Va ?_ | refine ⟨_, numk_nil 8 m (by omega) (by omega) hm2, ?_⟩ | (refine ⟨Quill.numB 8 m, ⟨rfl, rfl⟩, ?_⟩) | refine ⟨_, hc, ?_⟩ | (refine And.intro a1 ?_) | (refine And.intro a2 ?_) | (refine And.intro a3 ?_) | exact True.intro | refine Av.Vb ?_ | exact ⟨rfl, rfl, rfl⟩ | exact ⟨rfl, rfl⟩ | (refine Av.Vc ?_ ?_ <;> intro hBr <;> first | (exfalso; omega) | (exfalso; contradiction) | (exfalso; exact hBr rfl) | skip) | refine Av.Vd ?_ | exact rfl)
/-! ### by the reference -/
theorem room_b {k : Nat} (hk : k ≤ 1000000000000) : room k (bytesT Tryz.prog 5) := by
 rw [show bytesT Tryz.prog 5 = 1 by kernel_rfl]; unfold room; omega
theorem bytesA_add (a b : List UInt8) : bytesA a ++ bytesA b = bytesA (a ++ b) := by simp [bytesA]
theorem bytesA_snoc0 (a : List UInt8) : bytesA a ++ [AV.ex (.int .u8 0)] = bytesA (a ++ [0]) := by simp [bytesA, byteA]
theorem rseal_yes (m : Nat) (q : List UInt8) (hm : m ≠ 0) (hm2 : m < 18446744073709551616) (hq : q.length ≤ 48) : SP 72 [U m, T q] (.tup [T (sec m q), Z 0]) := by
 have hsz := bs_size q
 have hN := Quill.numB_length 8 m
 have hs1 : sizeT Tryz.prog 5 = 1 := by kernel_rfl
 have hdl : bytesA (bs q).data.toList = bytesA q := by simp [bs]
 refine S_ Tryz.func72 (by kernel_rfl) rfl (Nat.le_of_ble_eq_true rfl) ?_
 show avc Tryz.prog SP _ _ _ _ _ _
 dsimp only [avc, startS, Array.toList, Tryz.f72]
 have hW0 := rnumk_nil 8 m (by omega) (by omega) hm2
 refine Av.Wk ?_
 refine And.intro ⟨room_b (by omega), by rw [hs1]; simp [bytesA], True.intro⟩ ?_
 refine Av.Wk ?_
 refine ⟨[6, 0], [], fun vs bl => ∃ (i n : Nat) (cs : List AV), i ≤ 48 - q.length ∧ n = 8 + q.length + i ∧ cs = bytesA (Quill.numB 8 m ++ q ++ List.replicate i 0) ∧ (vs = [.sl 0 n, U m] ∧ bl = [⟨cs, some 5, true, true⟩]),
  fun vs bl => match vs with | [.sl _ n, _] => 56 - n | _ => 0, ?_, ?_⟩
 ·exact ⟨0, (Quill.numB 8 m).length + (bs q).size, _, by omega, by omega, by rw [hdl, bytesA_add]; simp, rfl, rfl⟩
 rintro vs bl ⟨i, n, cs, hi, hn, hcs, rfl, rfl⟩
 have hcl : cs.length = n := by rw [hcs, bytesA_length]; simp; omega
 by_cases hlt : n < 56
 ·have hWz : Av.FzF := ⟨⟩
  refine Av.Wk ?_
  refine And.intro ⟨room_b (by omega), by rw [hs1, hcl, Nat.mul_one], by rw [hs1]; rfl, fun v hv => by rw [List.mem_singleton] at hv; subst hv; rfl⟩ ?_
  refine Av.Wk ?_
  exact ⟨⟨i + 1, n + 1, _, by omega, by omega, by rw [hcs, bytesA_snoc0, List.replicate_succ', List.append_assoc], rfl, rfl⟩, (by omega : 56 - (n + 1) < 56 - n)⟩
 ·have hi2 : i = 48 - q.length := by omega
  subst hi2
  have hX : (Quill.numB 8 m ++ q ++ List.replicate (48 - q.length) 0).length = n := by simp; omega
  subst hX
  subst hcs
  repeat' ((try conv => whnf) <;> first | refine Av.Va ?_ | refine ⟨_, rnumk_snd (Quill.numB 8 m ++ q ++ List.replicate (48 - q.length) 0) 8 m (by omega) (by omega) (by simp; omega) hm2, ?_⟩ | (refine ⟨_, ⟨rfl, rfl⟩, ?_⟩) | exact True.intro | refine Av.Vb ?_ | exact ⟨rfl, rfl, rfl⟩ | exact ⟨rfl, rfl⟩ | (refine Av.Vc ?_ ?_ <;> intro hBr <;> first | (exfalso; omega) | (exfalso; contradiction) | (exfalso; exact hBr rfl) | skip) | refine Av.Vd ?_ | exact rfl)
def hdM (t : List UInt8) : Nat := Quill.tell (t.take 8)
def tlM (t : List UInt8) : Nat := Quill.tell (t.drop 56)
theorem num_hd {t : List UInt8} (h : t.length = 64) : Quill.Sc.num ⟨t, 0, 0⟩ 8 = (hdM t, ⟨t, 8, 0⟩) := by
 unfold Quill.Sc.num
 rw [if_neg (by simp), if_neg (by simp [Quill.Sc.stands]), if_neg (by simp; omega)]
 rfl
theorem num_tl {t : List UInt8} (h : t.length = 64) : Quill.Sc.num ⟨t, 56, 0⟩ 8 = (tlM t, ⟨t, 64, 0⟩) := by
 unfold Quill.Sc.num
 rw [if_neg (by simp), if_neg (by simp [Quill.Sc.stands, h]), if_neg (by simp [h])]
 have : ((t.drop (56 : Int).toNat).take (8 : Int).toNat) = t.drop 56 := List.take_of_length_le (by simp [h])
 simp only [this]
 rfl
theorem ends_walk (t : List UInt8) (a b : Nat) (p q : Int) (h : (bs t).size = 64) (h1 : SP 126 [scM t 0 0, Z 8] (numM a t p 0)) (h2 : SP 126 [scM t (((bs t).size : Int) - 8) 0, Z 8] (numM b t q 0)) :
  SP 133 [T t] (.tup [U a, U b]) := by
 refine S_ Tryz.func133 (by kernel_rfl) rfl (Nat.le_of_ble_eq_true rfl) ?_
 show avc Tryz.prog SP _ _ _ _ _ _
 dsimp only [avc, startS, Array.toList, Tryz.f133]
 exact Av.W
theorem ends_ok (t : List UInt8) (h : t.length = 64) : SP 133 [T t] (.tup [U (hdM t), U (tlM t)]) := by
 have c1 := scannum_snd t 0 0 8 (by omega)
 have c2 := scannum_snd t 56 0 8 (by omega)
 rw [num_hd h] at c1
 rw [num_tl h] at c2
 exact ends_walk t _ _ _ _ (by rw [bs_size]; exact h) c1 (by rw [bs_size, h]; exact c2)
theorem open_len (t : List UInt8) (h : (bs t).size ≠ 64) : SP 73 [T t] (.tup [U 0, T [], Z 2]) := by
 refine S_ Tryz.func73 (by kernel_rfl) rfl (Nat.le_of_ble_eq_true rfl) ?_
 show avc Tryz.prog SP _ _ _ _ _ _
 dsimp only [avc, startS, Array.toList, Tryz.f73]
 have hW0 : Av.Mk 6 [0,0,2,1,15,31] := ⟨⟩
 exact Av.W
theorem ropen_len (t : List UInt8) (h : (bs t).size ≠ 64) : SP 75 [T t] (.tup [U 0, T [], Z 2]) := by
 refine S_ Tryz.func75 (by kernel_rfl) rfl (Nat.le_of_ble_eq_true rfl) ?_
 show avc Tryz.prog SP _ _ _ _ _ _
 dsimp only [avc, startS, Array.toList, Tryz.f75]
 have hW1 : Av.Mk 6 [0,0,2,1,15,31] := ⟨⟩
 exact Av.W
abbrev midS (t : List UInt8) : AV := .ex (.string ((bs t).extract (8 : Int).toNat (56 : Int).toNat))
theorem open_ne (t : List UInt8) (a b : Nat) (h : (bs t).size = 64) (hne : a ≠ b) (he : SP 133 [T t] (.tup [U a, U b])) : SP 73 [T t] (.tup [U 0, T [], Z 4]) := by
 refine S_ Tryz.func73 (by kernel_rfl) rfl (Nat.le_of_ble_eq_true rfl) ?_
 show avc Tryz.prog SP _ _ _ _ _ _
 dsimp only [avc, startS, Array.toList, Tryz.f73]
 have hW2 : Av.Mk 6 [0,0,2,1,15,31] := ⟨⟩
 exact Av.W
theorem open_zero (t : List UInt8) (h : (bs t).size = 64) (he : SP 133 [T t] (.tup [U 0, U 0])) : SP 73 [T t] (.tup [U 0, T [], Z 6]) := by
 refine S_ Tryz.func73 (by kernel_rfl) rfl (Nat.le_of_ble_eq_true rfl) ?_
 show avc Tryz.prog SP _ _ _ _ _ _
 dsimp only [avc, startS, Array.toList, Tryz.f73]
 have hW3 : Av.Mk 6 [0,0,2,1,15,31] := ⟨⟩
 exact Av.W
theorem open_yes (t : List UInt8) (a : Nat) (h : (bs t).size = 64) (ha : a ≠ 0) (he : SP 133 [T t] (.tup [U a, U a])) : SP 73 [T t] (.tup [U a, midS t, Z 0]) := by
 refine S_ Tryz.func73 (by kernel_rfl) rfl (Nat.le_of_ble_eq_true rfl) ?_
 show avc Tryz.prog SP _ _ _ _ _ _
 dsimp only [avc, startS, Array.toList, Tryz.f73]
 have hW4 : Av.Mk 6 [0,0,2,1,15,31] := ⟨⟩
 exact Av.W
theorem ropen_ne (t : List UInt8) (a b : Nat) (p q : Int) (h : (bs t).size = 64) (hne : a ≠ b) (h1 : SP 135 [scM t 0 0, Z 8] (numM a t p 0)) (h2 : SP 135 [scM t 56 0, Z 8] (numM b t q 0)) : SP 75 [T t] (.tup [U 0, T [], Z 4]) := by
 refine S_ Tryz.func75 (by kernel_rfl) rfl (Nat.le_of_ble_eq_true rfl) ?_
 show avc Tryz.prog SP _ _ _ _ _ _
 dsimp only [avc, startS, Array.toList, Tryz.f75]
 have hW5 : Av.Mk 6 [0,0,2,1,15,31] := ⟨⟩
 exact Av.W
theorem ropen_zero (t : List UInt8) (p q : Int) (h : (bs t).size = 64) (h1 : SP 135 [scM t 0 0, Z 8] (numM 0 t p 0)) (h2 : SP 135 [scM t 56 0, Z 8] (numM 0 t q 0)) : SP 75 [T t] (.tup [U 0, T [], Z 6]) := by
 refine S_ Tryz.func75 (by kernel_rfl) rfl (Nat.le_of_ble_eq_true rfl) ?_
 show avc Tryz.prog SP _ _ _ _ _ _
 dsimp only [avc, startS, Array.toList, Tryz.f75]
 have hW6 : Av.Mk 6 [0,0,2,1,15,31] := ⟨⟩
 exact Av.W
theorem ropen_yes (t : List UInt8) (a : Nat) (p q : Int) (h : (bs t).size = 64) (ha : a ≠ 0) (h1 : SP 135 [scM t 0 0, Z 8] (numM a t p 0)) (h2 : SP 135 [scM t 56 0, Z 8] (numM a t q 0)) : SP 75 [T t] (.tup [U a, midS t, Z 0]) := by
 refine S_ Tryz.func75 (by kernel_rfl) rfl (Nat.le_of_ble_eq_true rfl) ?_
 show avc Tryz.prog SP _ _ _ _ _ _
 dsimp only [avc, startS, Array.toList, Tryz.f75]
 have hW7 : Av.Mk 6 [0,0,2,1,15,31] := ⟨⟩
 exact Av.W
def opn (t : List UInt8) : Nat × List UInt8 × Int :=
 if t.length ≠ 64 then (0, [], 2) else if hdM t ≠ tlM t then (0, [], 4) else if hdM t = 0 then (0, [], 6) else (hdM t, (t.drop 8).take 48, 0)
theorem mid_is (t : List UInt8) : midS t = T ((t.drop 8).take 48) := by
 show AV.ex (.string _) = AV.ex (.string _)
 rw [bs_cut]; rfl
theorem open_ok (t : List UInt8) : SP 73 [T t] (.tup [U (opn t).1, T (opn t).2.1, Z (opn t).2.2]) := by
 unfold opn
 split
 ·rename_i h; exact open_len t (by rw [bs_size]; exact h)
 ·rename_i h
  have h : t.length = 64 := by omega
  have hb : (bs t).size = 64 := by rw [bs_size]; exact h
  have he := ends_ok t h
  split
  ·rename_i hne; exact open_ne t _ _ hb hne he
  ·rename_i heq
   have heq : hdM t = tlM t := by omega
   rw [← heq] at he
   split
   ·rename_i h0; rw [h0] at he; exact open_zero t hb he
   ·rename_i h0; rw [← mid_is]; exact open_yes t _ hb h0 he
theorem ropen_ok (t : List UInt8) : SP 75 [T t] (.tup [U (opn t).1, T (opn t).2.1, Z (opn t).2.2]) := by
 unfold opn
 split
 ·rename_i h; exact ropen_len t (by rw [bs_size]; exact h)
 ·rename_i h
  have h : t.length = 64 := by omega
  have hb : (bs t).size = 64 := by rw [bs_size]; exact h
  have c1 := takenum_snd t 0 0 8 (by omega)
  have c2 := takenum_snd t 56 0 8 (by omega)
  rw [num_hd h] at c1
  rw [num_tl h] at c2
  split
  ·rename_i hne; exact ropen_ne t _ _ _ _ hb hne c1 c2
  ·rename_i heq
   have heq : hdM t = tlM t := by omega
   rw [← heq] at c2
   split
   ·rename_i h0; rw [h0] at c1 c2; exact ropen_zero t _ _ hb c1 c2
   ·rename_i h0; rw [← mid_is]; exact ropen_yes t _ _ _ hb h0 c1 c2
theorem join_flat (L : List (List UInt8)) : Lib.join L [] = L.flatten := by
 cases L with
 | nil => rfl
 | cons x r =>
  rw [Lib.join_cons, List.flatten_cons, Lib.joinTail]
  congr 2
  simp
theorem glue_neg (L : List (List UInt8)) (n : Int) (h : n < 0) : SP 74 [.vs L.length (L.map T), Z n] (.tup [T [], Z 2]) := by
 refine S_ Tryz.func74 (by kernel_rfl) rfl (Nat.le_of_ble_eq_true rfl) ?_
 show avc Tryz.prog SP _ _ _ _ _ _
 dsimp only [avc, startS, Array.toList, Tryz.f74]
 exact Av.W
theorem glue_short (L : List (List UInt8)) (n : Int) (h : 0 ≤ n) (h2 : ((bs L.flatten).size : Int) < n) (hj : SP 134 [.vs L.length (L.map T), T []] (T L.flatten)) : SP 74 [.vs L.length (L.map T), Z n] (.tup [T [], Z 3]) := by
 refine S_ Tryz.func74 (by kernel_rfl) rfl (Nat.le_of_ble_eq_true rfl) ?_
 show avc Tryz.prog SP _ _ _ _ _ _
 dsimp only [avc, startS, Array.toList, Tryz.f74]
 exact Av.W
theorem glue_yes (L : List (List UInt8)) (n : Int) (h : 0 ≤ n) (h2 : n ≤ (bs L.flatten).size) (hj : SP 134 [.vs L.length (L.map T), T []] (T L.flatten)) : SP 74 [.vs L.length (L.map T), Z n] (.tup [.ex (.string ((bs L.flatten).extract (0 : Int).toNat n.toNat)), Z 0]) := by
 refine S_ Tryz.func74 (by kernel_rfl) rfl (Nat.le_of_ble_eq_true rfl) ?_
 show avc Tryz.prog SP _ _ _ _ _ _
 dsimp only [avc, startS, Array.toList, Tryz.f74]
 exact Av.W
def glu (L : List (List UInt8)) (n : Int) : List UInt8 × Int := if n < 0 then ([], 2) else if (L.flatten.length : Int) < n then ([], 3) else (L.flatten.take n.toNat, 0)
theorem glue_ok (L : List (List UInt8)) (n : Int) (hl : L.length ≤ 1000000) (hL : L.flatten.length ≤ 1000000000) : SP 74 [.vs L.length (L.map T), Z n] (.tup [T (glu L n).1, Z (glu L n).2]) := by
 have hj := join_snd L [] (by omega) (by rw [join_flat]; omega)
 rw [join_flat] at hj
 unfold glu
 split
 ·rename_i h; exact glue_neg L n h
 ·rename_i h
  split
  ·rename_i h2; exact glue_short L n (by omega) (by rw [bs_size]; exact h2) hj
  ·rename_i h2
   have := glue_yes L n (by omega) (by rw [bs_size]; omega) hj
   rw [bs_cut] at this
   simpa using this
theorem rglue_all (L : List (List UInt8)) (n : Int) (hl : L.length ≤ 1000000) (hL : L.flatten.length ≤ 1000000000) : SP 76 [.vs L.length (L.map T), Z n] (.tup [T (glu L n).1, Z (glu L n).2]) := by
 unfold glu
 split
 ·rename_i h; exact rglue_neg L n h
 ·rename_i h
  split
  ·rename_i h2; exact rglue_ok L n (by omega) hl (by omega) _ _ (.inr ⟨h2, rfl, rfl⟩)
  ·rename_i h2; exact rglue_ok L n (by omega) hl (by omega) _ _ (.inl ⟨by omega, rfl, rfl⟩)
end Go.Proofs.YtbaedepmogkkeaaGreat.Av
namespace Go.Proofs.YtbaedepmogkkeaaGreat.Av
open Go Go.RowKit Tre
set_option linter.unusedVariables false
set_option linter.unusedSimpArgs false
set_option maxRecDepth 100000
set_option maxHeartbeats 4000000
def mkG (g i : Nat) : Nat := g * 1048576 + i + 1
def secs (g : Nat) (t : List UInt8) (k : Nat) : List AV := (List.range k).map fun i => T (sec (mkG g i) (pc t i))
theorem room_sec {k : Nat} (hk : k ≤ 1000000000000) : room k (bytesT Tryz.prog 9) := by
 rw [show bytesT Tryz.prog 9 = 16 by kernel_rfl]; unfold room; omega
theorem secs_len (g : Nat) (t : List UInt8) (k : Nat) : (secs g t k).length = k := by simp [secs]
theorem secs_succ (g : Nat) (t : List UInt8) (k : Nat) : secs g t (k + 1) = secs g t k ++ [T (sec (mkG g k) (pc t k))] := by simp [secs, List.range_succ]
theorem zeroL_S : ∀ n, zeroL (AV.ex (.string { data := #[] })).cells n = List.replicate n (T [])
 | 0 => rfl
 | n + 1 => by
  show [AV.ex (.string _)] ++ zeroL _ n = _
  rw [zeroL_S n, List.replicate_succ]; rfl
def secD (g : Nat) (t : List UInt8) (N i : Nat) : List AV := secs g t i ++ List.replicate (N - i) (T [])
theorem secD_len (g : Nat) (t : List UInt8) {N i : Nat} (h : i ≤ N) : (secD g t N i).length = N := by
 unfold secD; rw [List.length_append, secs_len, List.length_replicate]; omega
theorem secD_set (g : Nat) (t : List UInt8) {N i : Nat} (h : i < N) : setL (secD g t N i) i [T (sec (mkG g i) (pc t i))] = secD g t N (i + 1) := by
 show (secD g t N i).set i _ = _
 unfold secD
 rw [List.set_append_right _ _ (by rw [secs_len]; omega), secs_len, Nat.sub_self, secs_succ, show N - i = (N - (i + 1)) + 1 by omega, List.replicate_succ, List.set_cons_zero, List.append_assoc]
 rfl
theorem lay_yes {t : Tr} (h : MapS t) (g : Nat) (n : Int) (hn : (npc (Shf.encB t.toL) : Int) ≤ n) (hl : (Shf.encB t.toL).length ≤ 48000000) (hg : 1 ≤ g ∧ g ≤ 1099511627776) (hp : npc (Shf.encB t.toL) < 1048575) :
  SP 14 [trA t, U g, Z n] (.tup [.own 9 (npc (Shf.encB t.toL)) (secs g (Shf.encB t.toL) (npc (Shf.encB t.toL))), Z 0]) := by
 have c1 := enc_ok h
 have c2 := cut_yes (Shf.encB t.toL) n (by omega) hn
 clear hl hn
 generalize Shf.encB t.toL = L at *
 obtain ⟨N, hN⟩ : ∃ N, N = npc L := ⟨_, rfl⟩
 rw [← hN] at hp c2 ⊢
 have hm : 0 ≤ (N : Int) ∧ (N : Int) ≤ (N : Int) ∧ room (N : Int).toNat (bytesT Tryz.prog 9) := ⟨by omega, by omega, room_sec (by omega)⟩
 refine S_ Tryz.func14 (by kernel_rfl) rfl (Nat.le_of_ble_eq_true rfl) ?_
 show avc Tryz.prog SP _ _ _ _ _ _
 dsimp only [avc, startS, Array.toList, Tryz.f14]
 repeat' ((try conv => whnf) <;> first | refine Av.Va ?_ | refine ⟨_, c1, ?_⟩ | refine ⟨_, c2, ?_⟩ | (refine And.intro hm ?_) | exact True.intro | refine Av.Vb ?_ | exact ⟨rfl, rfl, rfl⟩ | exact ⟨rfl, rfl⟩ | (refine Av.Vc ?_ ?_ <;> intro hBr <;> first | (exfalso; omega) | (exfalso; contradiction) | (exfalso; exact hBr rfl) | skip) | refine Av.Vd ?_ | exact rfl)
 refine ⟨[37, 36, 35, 11, 1], [], fun vs bl => ∃ (i : Nat) (D : List AV), i ≤ N ∧ D = secD g L N i ∧ (vs = [Z i, Z N, .sl 0 N, .sl 1 N, U g] ∧ bl = [⟨pcs L N, some 9, true, true⟩, ⟨D, some 9, false, true⟩]), muI N, ?_, ?_⟩
 ·exact ⟨0, _, by omega, by rw [Int.toNat_natCast, zeroL_S]; rfl, rfl, rfl⟩
 clear c1 c2 hm
 rintro vs bl ⟨i, D, hi, hD, rfl, rfl⟩
 have hl := secD_len g L hi
 have hs1 : sizeT Tryz.prog 9 = 1 := by kernel_rfl
 by_cases hik : i < N
 ·have hat : (pcs L N)[mulS (i : Int).toNat (sizeT Tryz.prog 9) + 0]? = some (T (pc L i)) := by rw [hs1, mulS_eq, Nat.mul_one, Int.toNat_natCast]; simp [pcs, hik]
  have hMi := mark_yes (g := g) (p := (i : Int)) ⟨hg.1, hg.2, by omega, by omega⟩
  rw [show (g : Int) * 1048576 + i + 1 = ((mkG g i : Nat) : Int) by unfold mkG; omega] at hMi
  have hSi := seal_yes (mkG g i) (pc L i) (by unfold mkG; omega) (by unfold mkG; omega) (by unfold pc; rw [List.length_take]; omega)
  have hidx : mulS (i : Int).toNat (sizeT Tryz.prog 9) + 1 ≤ D.length := by rw [hD, hl, hs1, mulS_eq, Nat.mul_one, Int.toNat_natCast]; omega
  have hst : setL D (mulS (i : Int).toNat (sizeT Tryz.prog 9)) [T (sec (mkG g i) (pc L i))] = secD g L N (i + 1) := by rw [hD, hs1, mulS_eq, Nat.mul_one, Int.toNat_natCast]; exact secD_set g L hik
  have hdec : muI N [Z ((i : Int) + 1)] [] < muI N [Z i] [] := by show N - ((i : Int) + 1).toNat < N - (i : Int).toNat; omega
  generalize sec (mkG g i) (pc L i) = S at *
  generalize mkG g i = M at *
  generalize pc L i = P at *
  repeat' ((try conv => whnf) <;> first | refine Av.Va ?_ | (refine ⟨_, hat, ?_⟩) | refine ⟨_, hMi, ?_⟩ | refine ⟨_, hSi, ?_⟩ | (refine And.intro hidx ?_) | exact True.intro | refine Av.Vb ?_ | exact ⟨rfl, rfl, rfl⟩ | exact ⟨rfl, rfl⟩ | (refine Av.Vc ?_ ?_ <;> intro hBr <;> first | (exfalso; omega) | (exfalso; contradiction) | (exfalso; exact hBr rfl) | skip) | refine Av.Vd ?_ | exact rfl)
  exact ⟨⟨i + 1, _, by omega, hst, rfl, rfl⟩, hdec⟩
 ·obtain rfl : i = N := by omega
  rw [show secD g L i i = secs g L i by unfold secD; simp] at hD
  subst hD
  exact Av.W
abbrev lsA (L : List (List UInt8)) : AV := .vs L.length (L.map T)
theorem read_gen (L : List (List UInt8)) (g : Nat) (n : Int) (hg : ¬ (1 ≤ g ∧ g ≤ 1099511627776)) : SP 16 [lsA L, U g, Z n] (.tup [treeO [], Z 2]) := by
 have c1 := mark_no (g := g) (p := 0) (fun h => hg ⟨h.1, h.2.1⟩)
 refine S_ Tryz.func16 (by kernel_rfl) rfl (Nat.le_of_ble_eq_true rfl) ?_
 show avc Tryz.prog SP _ _ _ _ _ _
 dsimp only [avc, startS, Array.toList, Tryz.f16]
 exact Av.W
theorem mark_0 {g : Nat} (hg : 1 ≤ g ∧ g ≤ 1099511627776) : SP 66 [U g, Z 0] (.tup [U (mkG g 0 : Nat), Z 0]) := by
 have c1 := mark_yes (g := g) (p := 0) ⟨hg.1, hg.2, by omega, by omega⟩
 rw [show (g : Int) * 1048576 + 0 + 1 = ((mkG g 0 : Nat) : Int) by unfold mkG; omega] at c1
 exact c1
theorem read_neg (L : List (List UInt8)) (g : Nat) (n : Int) (hg : 1 ≤ g ∧ g ≤ 1099511627776) (hn : n < 0) : SP 16 [lsA L, U g, Z n] (.tup [treeO [], Z 2]) := by
 have c1 := mark_0 hg
 refine S_ Tryz.func16 (by kernel_rfl) rfl (Nat.le_of_ble_eq_true rfl) ?_
 show avc Tryz.prog SP _ _ _ _ _ _
 dsimp only [avc, startS, Array.toList, Tryz.f16]
 exact Av.W
theorem read_few (L : List (List UInt8)) (g : Nat) (n : Int) (hg : 1 ≤ g ∧ g ≤ 1099511627776) (hn : 0 ≤ n) (hn2 : n ≤ 9223372036854775807) (hl : (L.length : Int) < cntP n) : SP 16 [lsA L, U g, Z n] (.tup [treeO [], Z 3]) := by
 have c1 := mark_0 hg
 have c2 := sectors_ok n hn2
 refine S_ Tryz.func16 (by kernel_rfl) rfl (Nat.le_of_ble_eq_true rfl) ?_
 show avc Tryz.prog SP _ _ _ _ _ _
 dsimp only [avc, startS, Array.toList, Tryz.f16]
 exact Av.W
def isS (g i : Nat) (s : List UInt8) : Prop := (opn s).2.2 = 0 ∧ (opn s).1 = mkG g i
instance (g i : Nat) (s : List UInt8) : Decidable (isS g i s) := by unfold isS; infer_instance
def payC (L : List (List UInt8)) : List (List UInt8) := L.map fun s => (opn s).2.1
theorem payC_succ {L : List (List UInt8)} {i : Nat} (h : i < L.length) : payC (L.take (i + 1)) = payC (L.take i) ++ [(opn L[i]).2.1] := by
 unfold payC
 rw [List.take_add_one, List.getElem?_eq_getElem h, List.map_append]; rfl
theorem lA_at {L : List (List UInt8)} {m i : Nat} (hi : i < m) (hm : m ≤ L.length) : ((L.take m).map T)[mulS (i : Int).toNat (sizeT Tryz.prog 9) + 0]? = some (T (L[i]'(by omega))) := by
 rw [show sizeT Tryz.prog 9 = 1 by kernel_rfl, mulS_eq, Nat.mul_one, Int.toNat_natCast, Nat.add_zero, List.getElem?_map, List.getElem?_take, if_pos hi, List.getElem?_eq_getElem (by omega)]; rfl
def RRInv (L : List (List UInt8)) (g m : Nat) (n : Int) (vs : List AV) (bl : List ABlk) : Prop :=
 ∃ (i : Nat) (acc : List (List UInt8)) (k : Nat) (cs D : List AV), i ≤ m ∧ k = m ∧ cs = (L.take m).map T ∧ acc = payC (L.take i) ∧ (∀ j (h : j < L.length), j < i → isS g j L[j]) ∧ D = acc.map T ∧
  (vs = [Z i, Z k, .vs k cs, U (mkG g 0 : Nat), Z n, .ptr 0 0, .sl 1 i] ∧ bl = [⟨[.ex (.pointer none)], none, false, true⟩, ⟨D, some 9, false, true⟩])
theorem read_walk (L : List (List UInt8)) (g : Nat) (n : Int) (m : Nat) (R : AV) (E : Int) (hg : 1 ≤ g ∧ g ≤ 1099511627776) (hn : 0 ≤ n) (hn2 : n ≤ 9223372036854775807) (hm : cntP n = m) (hl : m ≤ L.length) (hL : m ≤ 1000000)
  (hbad : ∀ j (h : j < L.length), j < m → ¬ isS g j L[j] → R = treeO [] ∧ E = 4)
  (hgood : (∀ j (h : j < L.length), j < m → isS g j L[j]) → ∃ t u e, SP 74 [.vs (payC (L.take m)).length ((payC (L.take m)).map T), Z n] (.tup [T t, Z u]) ∧ SP 62 [T t] (.tup [treeO e, Z E]) ∧ R = treeO e) :
  SP 16 [lsA L, U g, Z n] (.tup [R, Z E]) := by
 have c1 := mark_0 hg
 have c2 := sectors_ok n hn2
 rw [hm] at c2
 have hs1 : sizeT Tryz.prog 9 = 1 := by kernel_rfl
 have hcut : 0 ≤ (0 : Int) ∧ 0 ≤ (m : Int) ∧ (m : Int) ≤ ((L.length : Nat) : Int) ∧ L.length * sizeT Tryz.prog 9 ≤ (L.map T).length := ⟨by omega, by omega, by omega, by rw [hs1, List.length_map]; omega⟩
 refine S_ Tryz.func16 (by kernel_rfl) rfl (Nat.le_of_ble_eq_true rfl) ?_
 show avc Tryz.prog SP _ _ _ _ _ _
 dsimp only [avc, startS, Array.toList, Tryz.f16]
 repeat' ((try conv => whnf) <;> first | refine Av.Va ?_ | refine ⟨_, c1, ?_⟩ | refine ⟨_, c2, ?_⟩ | (refine And.intro hcut ?_) | exact True.intro | refine Av.Vb ?_ | exact ⟨rfl, rfl, rfl⟩ | exact ⟨rfl, rfl⟩ | (refine Av.Vc ?_ ?_ <;> intro hBr <;> first | (exfalso; omega) | (exfalso; contradiction) | (exfalso; exact hBr rfl) | skip) | refine Av.Vd ?_ | exact rfl)
 refine ⟨[42, 41, 40, 8, 2, 6, 11], [(11, some 9)], RRInv L g m n, muI m, ?_, ?_⟩
 ·exact ⟨0, [], _, _, [], by omega, by simp, by rw [hs1, mulS_eq, mulS_eq, takeL]; simp, rfl, fun j _ h => absurd h (by omega), rfl, rfl, rfl⟩
 clear c1 c2 hcut
 rintro vs bl ⟨i, acc, k, cs, D, hi, rfl, hcs, hacc, hgd, hD, rfl, rfl⟩
 have hDl : D.length = i * sizeT Tryz.prog 9 := by rw [hD, hs1, List.length_map, hacc]; unfold payC; rw [List.length_map, List.length_take]; omega
 by_cases hik : i < k
 ·have hat : cs[mulS (i : Int).toNat (sizeT Tryz.prog 9) + 0]? = some (T (L[i]'(by omega))) := by rw [hcs]; exact lA_at hik hl
  have hO := open_ok (L[i]'(by omega))
  have hdec : muI k [Z ((i : Int) + 1)] [] < muI k [Z i] [] := by show k - ((i : Int) + 1).toNat < k - (i : Int).toNat; omega
  have hms : ((mkG g 0 : Nat) : Int) + i = ((mkG g i : Nat) : Int) := by unfold mkG; omega
  have hmb : mkG g i < 18446744073709551616 := by unfold mkG; omega
  by_cases hS : isS g i (L[i]'(by omega))
  ·have ap : room (i + 1) (bytesT Tryz.prog 9) ∧ D.length = i * sizeT Tryz.prog 9 ∧ ([T (opn (L[i]'(by omega))).2.1] : List AV).length = 1 * sizeT Tryz.prog 9 ∧ ∀ u ∈ ([T (opn (L[i]'(by omega))).2.1] : List AV), one1 u = true := ⟨room_sec (by omega), hDl, by rw [hs1]; rfl, one_S _⟩
   have fin : RRInv L g k n [Z ((i : Int) + 1), Z k, .vs k cs, U (mkG g 0 : Nat), Z n, .ptr 0 0, .sl 1 (i + 1)] [⟨[.ex (.pointer none)], none, false, true⟩, ⟨D ++ [T (opn (L[i]'(by omega))).2.1], some 9, false, true⟩] :=
    ⟨i + 1, _, k, cs, _, by omega, rfl, hcs, rfl, fun j h hj => by
     by_cases h1 : j < i
     ·exact hgd j h h1
     ·obtain rfl : j = i := by omega
      exact hS, by rw [hD, hacc, payC_succ (show i < L.length by omega), List.map_append]; rfl, rfl, rfl⟩
   obtain ⟨s1, s2⟩ := hS
   rw [s1, s2] at hO
   obtain ⟨M, hM⟩ : ∃ M, M = mkG g i := ⟨_, rfl⟩
   rw [← hM] at hms hmb hO
   clear hM s1 s2
   generalize mkG g 0 = F at hms fin ⊢
   obtain ⟨P, hP⟩ : ∃ P, P = (opn (L[i]'(by omega))).2.1 := ⟨_, rfl⟩
   rw [← hP] at hO ap fin
   clear hP
   clear hgd hgood hbad hD hcs hacc hDl
   repeat' ((try conv => whnf) <;> first | refine Av.Va ?_ | (refine ⟨_, hat, ?_⟩) | refine ⟨_, hO, ?_⟩ | (refine ⟨false, ?_⟩) | (refine And.intro ap ?_) | exact True.intro | refine Av.Vb ?_ | exact ⟨rfl, rfl, rfl⟩ | exact ⟨rfl, rfl⟩ | (refine Av.Vc ?_ ?_ <;> intro hBr <;> first | (exfalso; omega) | (exfalso; contradiction) | (exfalso; exact hBr rfl) | skip) | refine Av.Vd ?_ | exact rfl)
   exact hdec
  ·obtain ⟨rfl, rfl⟩ := hbad i (by omega) hik hS
   have hne : (opn (L[i]'(by omega))).2.2 ≠ 0 ∨ (opn (L[i]'(by omega))).1 ≠ mkG g i := by unfold isS at hS; omega
   obtain ⟨a, b, c, ho⟩ : ∃ a b c, opn (L[i]'(by omega)) = (a, b, c) := ⟨_, _, _, rfl⟩
   rw [ho] at hO hne
   simp only at hO hne
   obtain ⟨M, hM⟩ : ∃ M, M = mkG g i := ⟨_, rfl⟩
   rw [← hM] at hms hmb hne
   clear hM
   generalize mkG g 0 = F at hms ⊢
   have hda : c = 0 → (a : Int) ≠ (M : Int) := fun h h2 => by omega
   clear hne
   clear hgd hgood hbad hD hcs hacc hDl hS ho
   by_cases hc : c = 0
   ·subst hc
    have hda := hda rfl
    repeat' ((try conv => whnf) <;> first | refine Av.Va ?_ | (refine ⟨_, hat, ?_⟩) | refine ⟨_, hO, ?_⟩ | exact True.intro | refine Av.Vb ?_ | exact ⟨rfl, rfl, rfl⟩ | exact ⟨rfl, rfl⟩ | (refine Av.Vc ?_ ?_ <;> intro hBr <;> first | (exfalso; omega) | (exfalso; contradiction) | (exfalso; exact hBr rfl) | skip) | refine Av.Vd ?_ | exact rfl)
   ·clear hda
    repeat' ((try conv => whnf) <;> first | refine Av.Va ?_ | (refine ⟨_, hat, ?_⟩) | refine ⟨_, hO, ?_⟩ | exact True.intro | refine Av.Vb ?_ | exact ⟨rfl, rfl, rfl⟩ | exact ⟨rfl, rfl⟩ | (refine Av.Vc ?_ ?_ <;> intro hBr <;> first | (exfalso; omega) | (exfalso; contradiction) | (exfalso; exact hBr rfl) | skip) | refine Av.Vd ?_ | exact rfl)
 ·obtain rfl : i = k := by omega
  obtain ⟨t, u, e, cg, cd, rfl⟩ := hgood fun j h hj => hgd j h hj
  have hal : acc.length = i := by rw [hacc]; unfold payC; rw [List.length_map, List.length_take]; omega
  rw [← hacc, ← hD, hal] at cg
  clear hgd hgood hbad hD hcs hacc hDl
  cases e with
  | nil =>
   repeat' ((try conv => whnf) <;> first | refine Av.Va ?_ | refine ⟨_, cg, ?_⟩ | refine ⟨_, cd, ?_⟩ | exact True.intro | refine Av.Vb ?_ | exact ⟨rfl, rfl, rfl⟩ | exact ⟨rfl, rfl⟩ | (refine Av.Vc ?_ ?_ <;> intro hBr <;> first | (exfalso; omega) | (exfalso; contradiction) | (exfalso; exact hBr rfl) | skip) | refine Av.Vd ?_ | exact rfl)
  | cons a l =>
   repeat' ((try conv => whnf) <;> first | refine Av.Va ?_ | refine ⟨_, cg, ?_⟩ | refine ⟨_, cd, ?_⟩ | exact True.intro | refine Av.Vb ?_ | exact ⟨rfl, rfl, rfl⟩ | exact ⟨rfl, rfl⟩ | (refine Av.Vc ?_ ?_ <;> intro hBr <;> first | (exfalso; omega) | (exfalso; contradiction) | (exfalso; exact hBr rfl) | skip) | refine Av.Vd ?_ | exact rfl)
def rd (L : List (List UInt8)) (g : Nat) (n : Int) : List Pr × Int :=
 if ¬ (1 ≤ g ∧ g ≤ 1099511627776) ∨ n < 0 then ([], 2) else if (L.length : Int) < cntP n then ([], 3)
 else if ∀ j (h : j < L.length), j < (cntP n).toNat → isS g j L[j] then Shf.dec (glu (payC (L.take (cntP n).toNat)) n).1 else ([], 4)
theorem opn_len (s : List UInt8) : (opn s).2.1.length ≤ 48 := by
 unfold opn
 split
 ·exact Nat.zero_le _
 ·split
  ·exact Nat.zero_le _
  ·split
   ·exact Nat.zero_le _
   ·show ((s.drop 8).take 48).length ≤ 48
    rw [List.length_take]; omega
theorem payC_flat : ∀ L : List (List UInt8), (payC L).flatten.length ≤ 48 * L.length
 | [] => by simp [payC]
 | s :: L => by
  have h1 := opn_len s
  have h2 := payC_flat L
  show ((opn s).2.1 ++ (payC L).flatten).length ≤ 48 * (L.length + 1)
  rw [List.length_append]; omega
theorem glu_len (L : List (List UInt8)) (n : Int) : (glu L n).1.length ≤ L.flatten.length := by
 unfold glu
 split
 ·exact Nat.zero_le _
 ·split
  ·exact Nat.zero_le _
  ·show (L.flatten.take n.toNat).length ≤ _
   rw [List.length_take]; omega
theorem read_ok (L : List (List UInt8)) (g : Nat) (n : Int) (hn2 : n ≤ 9223372036854775807) (hL : L.length ≤ 1000000) : SP 16 [lsA L, U g, Z n] (.tup [treeO (rd L g n).1, Z (rd L g n).2]) := by
 unfold rd
 by_cases hg : 1 ≤ g ∧ g ≤ 1099511627776
 ·by_cases hn : n < 0
  ·rw [if_pos (.inr hn)]; exact read_neg L g n hg hn
  ·rw [if_neg (fun h => h.elim (fun h => h hg) hn)]
   have hn : 0 ≤ n := by omega
   by_cases hl : (L.length : Int) < cntP n
   ·rw [if_pos hl]; exact read_few L g n hg hn hn2 hl
   ·rw [if_neg hl]
    have hc0 : 0 ≤ cntP n := by unfold cntP; split <;> omega
    obtain ⟨m, hm⟩ : ∃ m : Nat, cntP n = m := ⟨(cntP n).toNat, by omega⟩
    rw [hm, Int.toNat_natCast]
    have hl : m ≤ L.length := by omega
    have hpl : (payC (L.take m)).length ≤ 1000000 := by unfold payC; rw [List.length_map, List.length_take]; omega
    have hfl : (payC (L.take m)).flatten.length ≤ 48000000 := by
     have := payC_flat (L.take m)
     rw [List.length_take] at this
     omega
    have hgl := glu_len (payC (L.take m)) n
    by_cases hs : ∀ j (h : j < L.length), j < m → isS g j L[j]
    ·rw [if_pos hs]
     exact read_walk L g n m _ _ hg hn hn2 hm hl (by omega) (fun j h hj hb => absurd (hs j h hj) hb) fun _ => ⟨_, _, _, glue_ok _ n hpl (by omega), sdec_ok _ (by omega), rfl⟩
    ·rw [if_neg hs]
     exact read_walk L g n m _ _ hg hn hn2 hm hl (by omega) (fun j h hj hb => ⟨rfl, rfl⟩) fun h => absurd h hs
 ·rw [if_pos (.inl hg)]; exact read_gen L g n hg
theorem zwS {f : FuncId} {l : List AV} {r : AV} (h : SP f (trA .nil :: l) r) : SP f (zTr :: l) r := by
 refine Sound.weak h (by simp) fun w F j h1 h2 x hx => ?_
 cases j with
 | zero => exact zrepO hx
 | succ j => exact hx
theorem apply_good : ∀ (os : List OpP) (t : Tr), Tr.Good t → Tr.Good (Tr.apply os t) ∧ (Tr.apply os t).toL = applyL os t.toL
 | [], t, h => ⟨h, rfl⟩
 | o :: os, t, h => by
  obtain ⟨g, e⟩ := h.step o
  obtain ⟨g2, e2⟩ := apply_good os _ g
  exact ⟨g2, by show (Tr.apply os (t.step o)).toL = _; rw [e2, e]; rfl⟩
theorem key_le : ∀ {l : List Pr} {x : Pr}, x ∈ l → x.1.length + x.2.length ≤ bytesL l
 | [], x, h => by cases h
 | (a, b) :: l, x, h => by
  simp only [bytesL]
  rcases List.mem_cons.1 h with rfl | h
  ·show a.length + b.length ≤ _; omega
  ·have := key_le h; omega
structure MadeS (os : List OpP) (U : Tr) (r : List Pr) : Prop where
 good : Tr.Good U
 list : U.toL = r
 len : r.length ≤ 50
 bytes : bytesL r ≤ 57700
 made : SP 13 [.vs os.length (opC os)] (.tup [trA U, .vs r.length (prC r)])
end Go.Proofs.YtbaedepmogkkeaaGreat.Av
namespace Go.Proofs.YtbaedepmogkkeaaGreat.Av
open Go Go.RowKit
set_option linter.unusedVariables false
set_option linter.unusedSimpArgs false
set_option maxRecDepth 100000
theorem sec_len (m : Nat) (q : List UInt8) (hq : q.length ≤ 48) : (sec m q).length = 64 := by
 simp only [sec, List.length_append, Quill.numB_length, List.length_replicate]; omega
theorem sec_take (m : Nat) (q : List UInt8) : (sec m q).take 8 = Quill.numB 8 m := by
 simp only [sec, List.append_assoc]
 rw [List.take_left' (Quill.numB_length 8 m)]
theorem sec_drop (m : Nat) (q : List UInt8) (hq : q.length ≤ 48) : (sec m q).drop 56 = Quill.numB 8 m := by
 simp only [sec]
 rw [List.drop_left' (by simp only [List.length_append, Quill.numB_length, List.length_replicate]; omega)]
theorem tell8 {m : Nat} (h : m < 18446744073709551616) : Quill.tell (Quill.numB 8 m) = m := by
 rw [Quill.tell_numB, Nat.mod_eq_of_lt (by omega)]
theorem hd_sec {m : Nat} (q : List UInt8) (h : m < 18446744073709551616) : hdM (sec m q) = m := by rw [hdM, sec_take, tell8 h]
theorem tl_sec {m : Nat} (q : List UInt8) (h : m < 18446744073709551616) (hq : q.length ≤ 48) : tlM (sec m q) = m := by rw [tlM, sec_drop m q hq, tell8 h]
def torn (f o : List UInt8) (k : Nat) : List UInt8 := f.take k ++ o.drop k
theorem torn_len {f o : List UInt8} {k : Nat} (hf : f.length = 64) (ho : o.length = 64) : (torn f o k).length = 64 := by
 simp only [torn, List.length_append, List.length_take, List.length_drop]; omega
theorem torn_take_lo {f o : List UInt8} {k j : Nat} (hf : f.length = 64) (h : j ≤ k) (hk : k ≤ 64) : (torn f o k).take j = f.take j := by
 rw [torn, List.take_append_of_le_length (by rw [List.length_take]; omega), List.take_take, Nat.min_eq_left h]
theorem torn_drop_hi {f o : List UInt8} {k j : Nat} (hf : f.length = 64) (h : k ≤ j) (hk : k ≤ 64) : (torn f o k).drop j = o.drop j := by
 rw [torn, List.drop_append, List.drop_eq_nil_of_le (by rw [List.length_take]; omega), List.nil_append, List.drop_drop, List.length_take, Nat.min_eq_left (by omega)]
 congr 1; omega
theorem torn_tells {f o : List UInt8} {m0 m1 k : Nat} (hf : f.length = 64) (ho : o.length = 64) (f1 : hdM f = m1) (f2 : tlM f = m1) (o1 : hdM o = m0) (o2 : tlM o = m0) (h1 : m1 ≠ 0) (hne : m0 ≠ m1) (hk : k ≤ 64) :
  (opn (torn f o k)).2.2 = 4 ∧ torn f o k ≠ o ∧ torn f o k ≠ f ∨ (opn (torn f o k)).2.2 = 6 ∧ m0 = 0 ∨
   (opn (torn f o k)).2.2 = 0 ∧ (opn (torn f o k)).2.1 = ((torn f o k).drop 8).take 48 ∧ ((opn (torn f o k)).1 = m0 ∧ torn f o k = o ∨ (opn (torn f o k)).1 = m1 ∧ torn f o k = f) := by
 have hl := torn_len (k := k) hf ho
 by_cases h : hdM (torn f o k) = tlM (torn f o k)
 ·by_cases h8 : k ≤ 56
  ·have ht : tlM (torn f o k) = m0 := by rw [tlM, torn_drop_hi hf h8 hk]; exact o2
   by_cases h0 : m0 = 0
   ·refine .inr (.inl ⟨?_, h0⟩)
    unfold opn
    rw [if_neg (by omega), if_neg (by omega), if_pos (by omega)]
   ·have hk8 : k ≤ 8 := by
     apply Classical.byContradiction
     intro hh
     have : hdM (torn f o k) = m1 := by rw [hdM, torn_take_lo hf (by omega) hk]; exact f1
     omega
    have he : torn f o k = o := by
     have e1 : (torn f o k).take 8 = o.take 8 := by
      apply Quill.tell_inj (by simp only [List.length_take]; omega)
      have : hdM (torn f o k) = hdM o := by omega
      exact this
     rw [← List.take_append_drop 8 (torn f o k), e1, torn_drop_hi hf hk8 hk, List.take_append_drop]
    have eo : opn (torn f o k) = (hdM (torn f o k), ((torn f o k).drop 8).take 48, 0) := by
     unfold opn
     rw [if_neg (by omega), if_neg (by omega), if_neg (by omega)]
    rw [eo]
    exact .inr (.inr ⟨rfl, rfl, .inl ⟨by show hdM _ = _; omega, he⟩⟩)
  ·have hh : hdM (torn f o k) = m1 := by rw [hdM, torn_take_lo hf (by omega) hk]; exact f1
   have he : torn f o k = f := by
    have e1 : (torn f o k).drop 56 = f.drop 56 := by
     apply Quill.tell_inj (by simp only [List.length_drop]; omega)
     have : tlM (torn f o k) = tlM f := by omega
     exact this
    rw [← List.take_append_drop 56 (torn f o k), e1, torn_take_lo hf (by omega) hk, List.take_append_drop]
   have eo : opn (torn f o k) = (hdM (torn f o k), ((torn f o k).drop 8).take 48, 0) := by
    unfold opn
    rw [if_neg (by omega), if_neg (by omega), if_neg (by omega)]
   rw [eo]
   exact .inr (.inr ⟨rfl, rfl, .inr ⟨hh, he⟩⟩)
 ·refine .inl ⟨?_, fun e => ?_, fun e => ?_⟩
  ·unfold opn
   rw [if_neg (by omega), if_pos h]
  ·rw [e] at h; omega
  ·rw [e] at h; omega
def padR (q : List UInt8) : List UInt8 := q ++ List.replicate (48 - q.length) 0
theorem sec_opn {m : Nat} {q : List UInt8} (hm : m ≠ 0) (hm2 : m < 18446744073709551616) (hq : q.length ≤ 48) : opn (sec m q) = (m, padR q, 0) := by
 have hl := sec_len m q hq
 have h1 := hd_sec q hm2
 have h2 := tl_sec q hm2 hq
 unfold opn
 rw [if_neg (by omega), if_neg (by omega), if_neg (by omega), h1]
 have e : ((sec m q).drop 8).take 48 = padR q := by
  simp only [sec, List.append_assoc]
  rw [List.drop_left' (Quill.numB_length 8 m), ← List.append_assoc, List.take_left' (by simp; omega)]
  rfl
 rw [e]
theorem pad_len {q : List UInt8} (h : q.length ≤ 48) : (padR q).length = 48 := by simp [padR]; omega
end Go.Proofs.YtbaedepmogkkeaaGreat.Av
