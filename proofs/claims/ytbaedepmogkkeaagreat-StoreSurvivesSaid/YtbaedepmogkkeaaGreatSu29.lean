/- What the claim stands on, Su29: contracts of functions and plain facts. No conditions. -/
import Derived.Test.YtbaedepmogkkeaaGreatSu28
import Derived.Test.YtbaedepmogkkeaaGreatSu24
import Derived.Test.YtbaedepmogkkeaaGreatSu25
namespace Go.Proofs.YtbaedepmogkkeaaGreat.Av
open Go Go.RowKit Tre
set_option linter.unusedVariables false
set_option linter.unusedSimpArgs false
set_option maxRecDepth 100000
theorem pc48 (t : List UInt8) (i : Nat) : (pc t i).length ≤ 48 := by unfold pc; rw [List.length_take]; omega
theorem pad_first {q : List UInt8} {n : Nat} (h : n ≤ q.length) : (padR q).take n = q.take n := by
 unfold padR
 rw [List.take_append_of_le_length h]
theorem pads_flat (l : List UInt8) : ∀ k, (((List.range k).map fun i => padR (pc l i)).flatten).take (min (48 * k) l.length) = l.take (48 * k)
 | 0 => by simp
 | k + 1 => by
  have ih := pads_flat l k
  have hfl : ∀ k, (((List.range k).map fun i => padR (pc l i)).flatten).length = 48 * k := by
   intro k
   induction k with
   | zero => rfl
   | succ k ih2 =>
    rw [List.range_succ, List.map_append, List.flatten_append, List.length_append, ih2, List.map_singleton, List.flatten_singleton, pad_len (pc48 l k)]; omega
  rw [List.range_succ, List.map_append, List.flatten_append, List.map_singleton, List.flatten_singleton]
  by_cases h : 48 * k ≤ l.length
  ·rw [List.take_append, hfl k, List.take_of_length_le (by rw [hfl k]; omega)]
   rw [show min (48 * k) l.length = 48 * k by omega, List.take_of_length_le (by rw [hfl k]; omega)] at ih
   rw [ih, show 48 * (k + 1) = 48 * k + 48 by omega, List.take_add]
   congr 1
   have hpl : (pc l k).length = min 48 (l.length - 48 * k) := by unfold pc; rw [List.length_take, List.length_drop]
   rw [pad_first (by omega), List.take_of_length_le (by omega)]
   rfl
  ·rw [List.take_append_of_le_length (by rw [hfl k]; omega)]
   rw [show min (48 * (k + 1)) l.length = min (48 * k) l.length by omega, ih, List.take_of_length_le (by omega), List.take_of_length_le (by omega)]
def secsL (g : Nat) (t : List UInt8) (k : Nat) : List (List UInt8) := (List.range k).map fun i => sec (mkG g i) (pc t i)
theorem secsL_len (g : Nat) (t : List UInt8) (k : Nat) : (secsL g t k).length = k := by simp [secsL]
theorem secsL_at (g : Nat) (t : List UInt8) {k i : Nat} (h : i < (secsL g t k).length) : (secsL g t k)[i] = sec (mkG g i) (pc t i) := by simp [secsL]
theorem mkG_pos (g i : Nat) : mkG g i ≠ 0 := by unfold mkG; omega
theorem mkG_lt {g i : Nat} (hg : g ≤ 1099511627776) (hi : i < 1048575) : mkG g i < 18446744073709551616 := by unfold mkG; omega
theorem opn_secsL {g i : Nat} (t : List UInt8) (hg : g ≤ 1099511627776) (hi : i < 1048575) : opn (sec (mkG g i) (pc t i)) = (mkG g i, padR (pc t i), 0) := sec_opn (mkG_pos g i) (mkG_lt hg hi) (pc48 t i)
theorem cnt_len {t : List UInt8} : (cntP (t.length : Int)).toNat = npc t := by rw [cnt_npc, Int.toNat_natCast]
theorem pay_laid {g : Nat} (t : List UInt8) (hg : g ≤ 1099511627776) {k : Nat} (hk : k ≤ 1048575) : payC (secsL g t k) = (List.range k).map fun i => padR (pc t i) := by
 unfold payC secsL
 rw [List.map_map]
 refine List.map_congr_left fun i hi => ?_
 have := List.mem_range.1 hi
 show (opn (sec (mkG g i) (pc t i))).2.1 = _
 rw [opn_secsL t hg (by omega)]
theorem pads_len (l : List UInt8) : ∀ k, (((List.range k).map fun i => padR (pc l i)).flatten).length = 48 * k
 | 0 => rfl
 | k + 1 => by rw [List.range_succ, List.map_append, List.flatten_append, List.length_append, pads_len l k, List.map_singleton, List.flatten_singleton, pad_len (pc48 l k)]; omega
theorem rd_laid {g : Nat} {t : List UInt8} (s : List (List UInt8)) (hg : 1 ≤ g ∧ g ≤ 1099511627776) (hp : npc t < 1048575) : rd (secsL g t (npc t) ++ s) g t.length = Shf.dec t := by
 have hl := secsL_len g t (npc t)
 unfold rd
 rw [if_neg (fun h => h.elim (fun h => h hg) (by omega)), if_neg (by rw [cnt_npc, List.length_append, hl]; omega), cnt_len]
 rw [if_pos, List.take_left' hl, pay_laid t hg.2 (by omega)]
 ·congr 1
  unfold glu
  have h48 : 48 * npc t ≥ t.length := by unfold npc; omega
  rw [if_neg (by omega), if_neg (by rw [pads_len]; omega), Int.toNat_natCast]
  have := pads_flat t (npc t)
  rw [show min (48 * npc t) t.length = t.length by omega] at this
  show (((List.range (npc t)).map fun i => padR (pc t i)).flatten).take t.length = t
  rw [this, List.take_of_length_le h48]
 ·intro j h hj
  rw [List.getElem_append_left (by omega), secsL_at]
  unfold isS
  rw [opn_secsL t hg.2 (by omega)]
  exact ⟨rfl, rfl⟩
end Go.Proofs.YtbaedepmogkkeaaGreat.Av
namespace Go.Proofs.YtbaedepmogkkeaaGreat.Av
set_option maxHeartbeats 1000000
open Go Go.RowKit
set_option linter.unusedVariables false
set_option linter.unusedSimpArgs false
set_option maxRecDepth 100000
abbrev rt (g a z u : Int) : AV := .ex (.agg #[.int .u64 g, .int .i64 a, .int .i64 z, .int .u32 u])
def OkR (g a z : Int) : Prop := 1 ≤ g ∧ g ≤ 1099511627776 ∧ (a = 0 ∨ a = 1) ∧ 0 ≤ z ∧ z ≤ 24576
theorem check_yes {g a z u : Int} (h : OkR g a z) : SP 199 [rt g a z u] (Z 0) := by
 have h : 1 ≤ g ∧ g ≤ 1099511627776 ∧ (a = 0 ∨ a = 1) ∧ 0 ≤ z ∧ z ≤ 24576 := h
 refine S_ Tryz.func199 (by kernel_rfl) rfl (Nat.le_of_ble_eq_true rfl) ?_
 show avc Tryz.prog SP _ _ _ _ _ _
 dsimp only [avc, startS, Array.toList, Tryz.f199]
 exact Av.W
theorem check_no {g a z u : Int} (h : ¬ OkR g a z) : SP 199 [rt g a z u] (Z 2) := by
 have h : ¬ (1 ≤ g ∧ g ≤ 1099511627776 ∧ (a = 0 ∨ a = 1) ∧ 0 ≤ z ∧ z ≤ 24576) := h
 refine S_ Tryz.func199 (by kernel_rfl) rfl (Nat.le_of_ble_eq_true rfl) ?_
 show avc Tryz.prog SP _ _ _ _ _ _
 dsimp only [avc, startS, Array.toList, Tryz.f199]
 exact Av.W
theorem may_dec {g a z u : Int} (h : 1 ≤ g ∧ g ≤ 1099511627776 ∧ (a = 0 ∨ a = 1) ∧ 0 ≤ z) : SP 151 [rt g a z u] (B (decide (z ≤ 24576))) := by
 refine S_ Tryz.func151 (by kernel_rfl) rfl (Nat.le_of_ble_eq_true rfl) ?_
 show avc Tryz.prog SP _ _ _ _ _ _
 dsimp only [avc, startS, Array.toList, Tryz.f151]
 exact Av.W
theorem may_no0 {g a z u : Int} (h : ¬ (1 ≤ g ∧ g ≤ 1099511627776 ∧ (a = 0 ∨ a = 1) ∧ 0 ≤ z)) : SP 151 [rt g a z u] (B false) := by
 refine S_ Tryz.func151 (by kernel_rfl) rfl (Nat.le_of_ble_eq_true rfl) ?_
 show avc Tryz.prog SP _ _ _ _ _ _
 dsimp only [avc, startS, Array.toList, Tryz.f151]
 exact Av.W
theorem may_yes {g a z u : Int} (h : OkR g a z) : SP 151 [rt g a z u] (B true) := by
 have := may_dec (u := u) (show 1 ≤ g ∧ g ≤ 1099511627776 ∧ (a = 0 ∨ a = 1) ∧ 0 ≤ z from ⟨h.1, h.2.1, h.2.2.1, h.2.2.2.1⟩)
 rw [decide_eq_true h.2.2.2.2] at this
 exact this
theorem may_no {g a z u : Int} (h : ¬ OkR g a z) : SP 151 [rt g a z u] (B false) := by
 by_cases h2 : 1 ≤ g ∧ g ≤ 1099511627776 ∧ (a = 0 ∨ a = 1) ∧ 0 ≤ z
 ·have := may_dec (u := u) h2
  rw [decide_eq_false (fun hh => h ⟨h2.1, h2.2.1, h2.2.2.1, h2.2.2.2, hh⟩)] at this
  exact this
 ·exact may_no0 h2
theorem slot_ok {g a z u : Int} (h0 : 0 ≤ g) (h1 : g < 18446744073709551616) : SP 150 [rt g a z u] (Z (g % 2)) := by
 refine S_ Tryz.func150 (by kernel_rfl) rfl (Nat.le_of_ble_eq_true rfl) ?_
 show avc Tryz.prog SP _ _ _ _ _ _
 dsimp only [avc, startS, Array.toList, Tryz.f150]
 exact Av.W
theorem next0 {g z u s v : Int} : SP 143 [rt g 0 z u, Z s, .ex (.int .u32 v)] (rt (IntKind.u64.wrap (g + 1)) 1 s v) := by
 refine S_ Tryz.func143 (by kernel_rfl) rfl (Nat.le_of_ble_eq_true rfl) ?_
 show avc Tryz.prog SP _ _ _ _ _ _
 dsimp only [avc, startS, Array.toList, Tryz.f143]
 repeat' ((try conv => whnf) <;> first | refine Av.Va ?_ | (refine ⟨_, (rfl : IntKind.u64.wrap (g + 1) = IntKind.u64.wrap (g + 1)), ?_⟩) | exact True.intro | refine Av.Vb ?_ | exact ⟨rfl, rfl, rfl⟩ | exact ⟨rfl, rfl⟩ | (refine Av.Vc ?_ ?_ <;> intro hBr <;> first | (exfalso; omega) | (exfalso; contradiction) | (exfalso; exact hBr rfl) | skip) | refine Av.Vd ?_ | exact rfl)
theorem next1 {g a z u s v : Int} (ha : a ≠ 0) : SP 143 [rt g a z u, Z s, .ex (.int .u32 v)] (rt (IntKind.u64.wrap (g + 1)) 0 s v) := by
 refine S_ Tryz.func143 (by kernel_rfl) rfl (Nat.le_of_ble_eq_true rfl) ?_
 show avc Tryz.prog SP _ _ _ _ _ _
 dsimp only [avc, startS, Array.toList, Tryz.f143]
 repeat' ((try conv => whnf) <;> first | refine Av.Va ?_ | (refine ⟨_, (rfl : IntKind.u64.wrap (g + 1) = IntKind.u64.wrap (g + 1)), ?_⟩) | exact True.intro | refine Av.Vb ?_ | exact ⟨rfl, rfl, rfl⟩ | exact ⟨rfl, rfl⟩ | (refine Av.Vc ?_ ?_ <;> intro hBr <;> first | (exfalso; omega) | (exfalso; contradiction) | (exfalso; exact hBr rfl) | skip) | refine Av.Vd ?_ | exact rfl)
def payR (a z u : Nat) : List UInt8 := Quill.numB 1 a ++ Quill.numB 4 z ++ Quill.numB 4 u
theorem payR_len (a z u : Nat) : (payR a z u).length = 9 := by simp [payR, Quill.numB_length]
def rootS (g a z u : Nat) : List UInt8 := sec (g * 1048576 + 1) (Crc.sealed (payR a z u))
theorem lay_ok (g : Int) (a z u : Nat) (ha : a ≤ 1) (hz : z ≤ 24576) (hu : u < 4294967296) : SP 200 [rt g a z u] (T (Crc.sealed (payR a z u))) := by
 have c0 := numk_nil 1 a (by omega) (by omega) (by omega)
 have c1 := numk_snd (Quill.numB 1 a) 4 z (by omega) (by omega) (by rw [Quill.numB_length]; omega) (by omega)
 have c2 := numk_snd (Quill.numB 1 a ++ Quill.numB 4 z) 4 u (by omega) (by omega) (by simp [Quill.numB_length]) (by omega)
 have c3 := crcseal_ok (payR a z u) (by rw [payR_len]; omega)
 refine S_ Tryz.func200 (by kernel_rfl) rfl (Nat.le_of_ble_eq_true rfl) ?_
 show avc Tryz.prog SP _ _ _ _ _ _
 dsimp only [avc, startS, Array.toList, Tryz.f200]
 repeat' ((try conv => whnf) <;> first | refine Av.Va ?_ | refine ⟨_, c0, ?_⟩ | refine ⟨_, c1, ?_⟩ | refine ⟨_, c2, ?_⟩ | (refine ⟨payR a z u, ⟨rfl, rfl⟩, ?_⟩) | refine ⟨_, c3, ?_⟩ | exact True.intro | refine Av.Vb ?_ | exact ⟨rfl, rfl, rfl⟩ | exact ⟨rfl, rfl⟩ | (refine Av.Vc ?_ ?_ <;> intro hBr <;> first | (exfalso; omega) | (exfalso; contradiction) | (exfalso; exact hBr rfl) | skip) | refine Av.Vd ?_ | exact rfl)
theorem rseal_walk (g a z u : Int) (m : Nat) (q s : List UInt8) (h : OkR g a z) (hM : SP 66 [U g, Z 0] (.tup [U m, Z 0])) (hL : SP 200 [rt g a z u] (T q))
  (hS : SP 67 [U m, T q] (.tup [T s, Z 0])) : SP 149 [rt g a z u] (.tup [T s, Z 0]) := by
 refine S_ Tryz.func149 (by kernel_rfl) rfl (Nat.le_of_ble_eq_true rfl) ?_
 show avc Tryz.prog SP _ _ _ _ _ _
 dsimp only [avc, startS, Array.toList, Tryz.f149]
 have hW1 := check_yes (u := u) h
 exact Av.W
theorem rrseal_no {g a z u : Int} (h : ¬ OkR g a z) : SP 101 [rt g a z u] (.tup [T [], Z 2]) := by
 refine S_ Tryz.func101 (by kernel_rfl) rfl (Nat.le_of_ble_eq_true rfl) ?_
 show avc Tryz.prog SP _ _ _ _ _ _
 dsimp only [avc, startS, Array.toList, Tryz.f101]
 have hW2 := may_no (u := u) h
 exact Av.W
theorem rrseal_walk (g : Int) (a z u m : Nat) (q s : List UInt8) (h : OkR g a z) (ha : a ≤ 1) (hz : z ≤ 24576) (hu : u < 4294967296) (hM : SP 71 [U g, Z 0] (.tup [U m, Z 0]))
  (c0 : SP 131 [nilA, Z 1, U a] (.own 5 (Quill.numB 1 a).length (bytesA (Quill.numB 1 a))))
  (c1 : SP 131 [.vs (Quill.numB 1 a).length (bytesA (Quill.numB 1 a)), Z 4, U z] (.own 5 (Quill.numB 1 a ++ Quill.numB 4 z).length (bytesA (Quill.numB 1 a ++ Quill.numB 4 z))))
  (c2 : SP 131 [.vs (Quill.numB 1 a ++ Quill.numB 4 z).length (bytesA (Quill.numB 1 a ++ Quill.numB 4 z)), Z 4, U u] (.own 5 (payR a z u).length (bytesA (payR a z u))))
  (c3 : SP 152 [T (payR a z u)] (T q))
  (hS : SP 72 [U m, T q] (.tup [T s, Z 0])) : SP 101 [rt g a z u] (.tup [T s, Z 0]) := by
 refine S_ Tryz.func101 (by kernel_rfl) rfl (Nat.le_of_ble_eq_true rfl) ?_
 show avc Tryz.prog SP _ _ _ _ _ _
 dsimp only [avc, startS, Array.toList, Tryz.f101]
 repeat' ((try conv => whnf) <;> first | refine Av.Va ?_ | refine ⟨_, may_yes (u := u) h, ?_⟩ | refine ⟨_, hM, ?_⟩ | refine ⟨_, c0, ?_⟩ | refine ⟨_, c1, ?_⟩ | refine ⟨_, c2, ?_⟩ | (refine ⟨payR a z u, ⟨rfl, rfl⟩, ?_⟩) | refine ⟨_, c3, ?_⟩ | refine ⟨_, hS, ?_⟩ | exact True.intro | refine Av.Vb ?_ | exact ⟨rfl, rfl, rfl⟩ | exact ⟨rfl, rfl⟩ | (refine Av.Vc ?_ ?_ <;> intro hBr <;> first | (exfalso; omega) | (exfalso; contradiction) | (exfalso; exact hBr rfl) | skip) | refine Av.Vd ?_ | exact rfl)
theorem OkR.nat {g a z : Nat} (h : OkR g a z) : 1 ≤ g ∧ g ≤ 1099511627776 ∧ a ≤ 1 ∧ z ≤ 24576 := by
 have : 1 ≤ (g : Int) ∧ (g : Int) ≤ 1099511627776 ∧ ((a : Int) = 0 ∨ (a : Int) = 1) ∧ 0 ≤ (z : Int) ∧ (z : Int) ≤ 24576 := h
 omega
theorem sealed9 (a z u : Nat) : (Crc.sealed (payR a z u)).length = 13 := by rw [Crc.sealed_length, payR_len]
theorem rseal_ok {g a z u : Nat} (h : OkR g a z) (hu : u < 4294967296) : SP 149 [rt g a z u] (.tup [T (rootS g a z u), Z 0]) := by
 have hn := h.nat
 have hM := mark_yes (g := g) (p := 0) (by unfold OkM; omega)
 rw [show ((g : Int) * 1048576 + 0 + 1) = ((g * 1048576 + 1 : Nat) : Int) by omega] at hM
 exact rseal_walk g a z u _ _ _ h hM (lay_ok g a z u (by omega) (by omega) hu) (seal_yes _ _ (by omega) (by omega) (by rw [sealed9]; omega))
theorem rrseal_ok {g a z u : Nat} (h : OkR g a z) (hu : u < 4294967296) : SP 101 [rt g a z u] (.tup [T (rootS g a z u), Z 0]) := by
 have hn := h.nat
 have hM := rmark_yes (g := g) (p := 0) (by unfold OkM; omega)
 rw [show ((g : Int) * 1048576 + 0 + 1) = ((g * 1048576 + 1 : Nat) : Int) by omega] at hM
 exact rrseal_walk g a z u _ _ _ h (by omega) (by omega) hu hM (rnumk_nil 1 a (by omega) (by omega) (by omega)) (rnumk_snd (Quill.numB 1 a) 4 z (by omega) (by omega) (by rw [Quill.numB_length]; omega) (by omega))
  (rnumk_snd (Quill.numB 1 a ++ Quill.numB 4 z) 4 u (by omega) (by omega) (by simp [Quill.numB_length]) (by omega)) (rcrcseal_ok (payR a z u) (by rw [payR_len]; omega)) (rseal_yes _ _ (by omega) (by omega) (by rw [sealed9]; omega))
theorem scan_walk (t : List UInt8) (g : Int) (a z u : Nat) (p1 p2 p3 : Int) (ha : a < 256) (hz : z < 4294967296) (hu : u < 4294967296)
  (h1 : SP 126 [scM t 0 0, Z 1] (numM a t p1 0)) (h2 : SP 126 [scM t p1 0, Z 4] (numM z t p2 0)) (h3 : SP 126 [scM t p2 0, Z 4] (numM u t p3 0)) :
  SP 214 [U g, T t] (rt g a z u) := by
 refine S_ Tryz.func214 (by kernel_rfl) rfl (Nat.le_of_ble_eq_true rfl) ?_
 show avc Tryz.prog SP _ _ _ _ _ _
 dsimp only [avc, startS, Array.toList, Tryz.f214]
 exact Av.W
theorem ropen_1 (s p : List UInt8) (m : Nat) (e : Int) (he : e ≠ 0) (hO : SP 73 [T s] (.tup [U m, T p, Z e])) : SP 189 [T s] (.tup [rt 0 0 0 0, Z e]) := by
 refine S_ Tryz.func189 (by kernel_rfl) rfl (Nat.le_of_ble_eq_true rfl) ?_
 show avc Tryz.prog SP _ _ _ _ _ _
 dsimp only [avc, startS, Array.toList, Tryz.f189]
 exact Av.W
theorem ropen_2 (s p : List UInt8) (m : Nat) (g pl : Int) (b : Bool) (h : b = false ∨ pl ≠ 0) (hO : SP 73 [T s] (.tup [U m, T p, Z 0])) (hP : SP 213 [U m] (.tup [U g, Z pl, B b])) :
  SP 189 [T s] (.tup [rt 0 0 0 0, Z 4]) := by
 cases b
 ·refine S_ Tryz.func189 (by kernel_rfl) rfl (Nat.le_of_ble_eq_true rfl) ?_ -- G
  exact Av.W
 ·have h : pl ≠ 0 := by simpa using h
  refine S_ Tryz.func189 (by kernel_rfl) rfl (Nat.le_of_ble_eq_true rfl) ?_
  show avc Tryz.prog SP _ _ _ _ _ _
  dsimp only [avc, startS, Array.toList, Tryz.f189]
  exact Av.W
theorem ropen_3 (s p t : List UInt8) (m : Nat) (g e : Int) (hp : (bs p).size = 48) (he : e ≠ 0) (hO : SP 73 [T s] (.tup [U m, T p, Z 0])) (hP : SP 213 [U m] (.tup [U g, Z 0, B true]))
  (hC : SP 191 [.ex (.string ((bs p).extract (0 : Int).toNat (13 : Int).toNat))] (TE t e)) : SP 189 [T s] (.tup [rt 0 0 0 0, Z 4]) := by
 refine S_ Tryz.func189 (by kernel_rfl) rfl (Nat.le_of_ble_eq_true rfl) ?_
 show avc Tryz.prog SP _ _ _ _ _ _
 dsimp only [avc, startS, Array.toList, Tryz.f189]
 exact Av.W
theorem q_at {q : List UInt8} {i : Nat} (h : i < q.length) : (bytesA q)[mulS (i : Int).toNat (sizeT Tryz.prog 5)]? = some (.ex (.int .u8 (byteAt q i).toNat)) := by
 rw [size_u8, mulS_eq, Nat.mul_one, Int.toNat_natCast, List.getElem?_eq_getElem (by rw [bytesA_length]; exact h), bytesA_at]
 rfl
theorem ropen_4 (s p t q : List UInt8) (m j : Nat) (g : Int) (hp : (bs p).size = 48) (hO : SP 73 [T s] (.tup [U m, T p, Z 0])) (hP : SP 213 [U m] (.tup [U g, Z 0, B true]))
  (hC : SP 191 [.ex (.string ((bs p).extract (0 : Int).toNat (13 : Int).toNat))] (TE t 0)) (hq : (bs p).extract (13 : Int).toNat ((bs p).size : Int).toNat = bs q) (hql : q.length = 35) (hqs : (bs q).size = 35)
  (hj : j < 35) (h1 : ∀ i, i < j → byteAt q i = 0) (h2 : byteAt q j ≠ 0) : SP 189 [T s] (.tup [rt 0 0 0 0, Z 4]) := by
 refine S_ Tryz.func189 (by kernel_rfl) rfl (Nat.le_of_ble_eq_true rfl) ?_
 show avc Tryz.prog SP _ _ _ _ _ _
 dsimp only [avc, startS, Array.toList, Tryz.f189]
 refine Av.Wk ?_
 rw [hq]
 refine Av.Wk ?_
 refine ⟨[50, 49, 48, 10, 7, 2], [], fun vs bl => ∃ i : Nat, i ≤ j ∧ (vs = [Z i, Z (bs q).size, .sl 0 (bs q).size, T t, U g, .ptr 1 0] ∧ bl = [⟨bytesA q, some 5, false, true⟩, ⟨[U 0, Z 0, Z 0, .ex (.int .u32 0)], none, false, true⟩]), fun vs bl => match vs with | [.ex (.int _ i), _, _, _, _, _] => 36 - i.toNat | _ => 0, ?_, ?_⟩
 ·exact ⟨0, by omega, rfl, rfl⟩
 rintro vs bl ⟨i, hi, rfl, rfl⟩
 have hat := q_at (q := q) (i := i) (by omega)
 by_cases hij : i < j
 ·have hz := h1 i hij
  rw [hz] at hat
  refine Av.Wk ?_
  exact ⟨⟨i + 1, by omega, rfl, rfl⟩, (by simp only [Int.toNat_natCast]; show 36 - ((i : Int) + 1).toNat < _; omega)⟩
 ·have e : i = j := by omega
  subst e
  have hn : ¬ ((byteAt q i).toNat : Int) = 0 := by
   intro hh
   exact h2 (UInt8.toNat.inj (by show (byteAt q i).toNat = 0; omega))
  exact Av.W
theorem ropen_5 (s p t q : List UInt8) (m j : Nat) (g : Int) (hp : (bs p).size = 48) (hO : SP 73 [T s] (.tup [U m, T p, Z 0])) (hP : SP 213 [U m] (.tup [U g, Z 0, B true]))
  (hC : SP 191 [.ex (.string ((bs p).extract (0 : Int).toNat (13 : Int).toNat))] (TE t 0)) (hq : (bs p).extract (13 : Int).toNat ((bs p).size : Int).toNat = bs q) (hql : q.length = 35) (hqs : (bs q).size = 35)
  (a z u : Int) (h1 : ∀ i, i < 35 → byteAt q i = 0) (hS : SP 214 [U g, T t] (rt g a z u)) (hK : SP 199 [rt g a z u] (Z 2)) : SP 189 [T s] (.tup [rt 0 0 0 0, Z 4]) := by
 refine S_ Tryz.func189 (by kernel_rfl) rfl (Nat.le_of_ble_eq_true rfl) ?_
 show avc Tryz.prog SP _ _ _ _ _ _
 dsimp only [avc, startS, Array.toList, Tryz.f189]
 refine Av.Wk ?_
 rw [hq]
 refine Av.Wk ?_
 refine ⟨[50, 49, 48, 10, 7, 2], [], fun vs bl => ∃ i : Nat, i ≤ 35 ∧ (vs = [Z i, Z (bs q).size, .sl 0 (bs q).size, T t, U g, .ptr 1 0] ∧ bl = [⟨bytesA q, some 5, false, true⟩, ⟨[U 0, Z 0, Z 0, .ex (.int .u32 0)], none, false, true⟩]), fun vs bl => match vs with | [.ex (.int _ i), _, _, _, _, _] => 36 - i.toNat | _ => 0, ?_, ?_⟩
 ·exact ⟨0, by omega, rfl, rfl⟩
 rintro vs bl ⟨i, hi, rfl, rfl⟩
 by_cases hij : i < 35
 ·have hat := q_at (q := q) (i := i) (by omega)
  have hz := h1 i hij
  rw [hz] at hat
  refine Av.Wk ?_
  exact ⟨⟨i + 1, by omega, rfl, rfl⟩, (by simp only [Int.toNat_natCast]; show 36 - ((i : Int) + 1).toNat < _; omega)⟩
 ·exact Av.W
theorem ropen_6 (s p t q : List UInt8) (m j : Nat) (g : Int) (hp : (bs p).size = 48) (hO : SP 73 [T s] (.tup [U m, T p, Z 0])) (hP : SP 213 [U m] (.tup [U g, Z 0, B true]))
  (hC : SP 191 [.ex (.string ((bs p).extract (0 : Int).toNat (13 : Int).toNat))] (TE t 0)) (hq : (bs p).extract (13 : Int).toNat ((bs p).size : Int).toNat = bs q) (hql : q.length = 35) (hqs : (bs q).size = 35)
  (a z u : Int) (h1 : ∀ i, i < 35 → byteAt q i = 0) (hS : SP 214 [U g, T t] (rt g a z u)) (hK : SP 199 [rt g a z u] (Z 0)) : SP 189 [T s] (.tup [rt g a z u, Z 0]) := by
 refine S_ Tryz.func189 (by kernel_rfl) rfl (Nat.le_of_ble_eq_true rfl) ?_
 show avc Tryz.prog SP _ _ _ _ _ _
 dsimp only [avc, startS, Array.toList, Tryz.f189]
 refine Av.Wk ?_
 rw [hq]
 refine Av.Wk ?_
 refine ⟨[50, 49, 48, 10, 7, 2], [], fun vs bl => ∃ i : Nat, i ≤ 35 ∧ (vs = [Z i, Z (bs q).size, .sl 0 (bs q).size, T t, U g, .ptr 1 0] ∧ bl = [⟨bytesA q, some 5, false, true⟩, ⟨[U 0, Z 0, Z 0, .ex (.int .u32 0)], none, false, true⟩]), fun vs bl => match vs with | [.ex (.int _ i), _, _, _, _, _] => 36 - i.toNat | _ => 0, ?_, ?_⟩
 ·exact ⟨0, by omega, rfl, rfl⟩
 rintro vs bl ⟨i, hi, rfl, rfl⟩
 by_cases hij : i < 35
 ·have hat := q_at (q := q) (i := i) (by omega)
  have hz := h1 i hij
  rw [hz] at hat
  refine Av.Wk ?_
  exact ⟨⟨i + 1, by omega, rfl, rfl⟩, (by simp only [Int.toNat_natCast]; show 36 - ((i : Int) + 1).toNat < _; omega)⟩
 ·exact Av.W
theorem rropen_1 (s p : List UInt8) (m : Nat) (e : Int) (he : e ≠ 0) (hO : SP 75 [T s] (.tup [U m, T p, Z e])) : SP 194 [T s] (.tup [rt 0 0 0 0, Z e]) := by
 refine S_ Tryz.func194 (by kernel_rfl) rfl (Nat.le_of_ble_eq_true rfl) ?_
 show avc Tryz.prog SP _ _ _ _ _ _
 dsimp only [avc, startS, Array.toList, Tryz.f194]
 exact Av.W
theorem rropen_2 (s p t : List UInt8) (m a z u : Nat) (g pl p1 p2 p3 f : Int) (b : Bool) (ha : a < 256) (hz : z < 4294967296) (hu : u < 4294967296) (hf : f ≠ 0 ∨ t ≠ s)
  (hO : SP 75 [T s] (.tup [U m, T p, Z 0])) (hP : SP 215 [U m] (.tup [U g, Z pl, B b]))
  (h1 : SP 135 [scM p 0 0, Z 1] (numM a p p1 0)) (h2 : SP 135 [scM p p1 0, Z 4] (numM z p p2 0)) (h3 : SP 135 [scM p p2 0, Z 4] (numM u p p3 0))
  (hS : SP 101 [rt g a z u] (.tup [T t, Z f])) : SP 194 [T s] (.tup [rt 0 0 0 0, Z 4]) := by
 rcases hf with hf | hf
 ·refine S_ Tryz.func194 (by kernel_rfl) rfl (Nat.le_of_ble_eq_true rfl) ?_ -- G
  exact Av.W
 ·refine S_ Tryz.func194 (by kernel_rfl) rfl (Nat.le_of_ble_eq_true rfl) ?_ -- G
  exact Av.W
theorem rropen_3 (s p : List UInt8) (m a z u : Nat) (g pl p1 p2 p3 : Int) (b : Bool) (ha : a < 256) (hz : z < 4294967296) (hu : u < 4294967296)
  (hO : SP 75 [T s] (.tup [U m, T p, Z 0])) (hP : SP 215 [U m] (.tup [U g, Z pl, B b]))
  (h1 : SP 135 [scM p 0 0, Z 1] (numM a p p1 0)) (h2 : SP 135 [scM p p1 0, Z 4] (numM z p p2 0)) (h3 : SP 135 [scM p p2 0, Z 4] (numM u p p3 0))
  (hS : SP 101 [rt g a z u] (.tup [T s, Z 0])) : SP 194 [T s] (.tup [rt g a z u, Z 0]) := by
 refine S_ Tryz.func194 (by kernel_rfl) rfl (Nat.le_of_ble_eq_true rfl) ?_
 show avc Tryz.prog SP _ _ _ _ _ _
 dsimp only [avc, startS, Array.toList, Tryz.f194]
 exact Av.W
/-! ### in plain bytes -/
def fA (p : List UInt8) : Nat := Quill.tell (p.take 1)
def fZ (p : List UInt8) : Nat := Quill.tell ((p.drop 1).take 4)
def fU (p : List UInt8) : Nat := Quill.tell ((p.drop 5).take 4)
theorem numB_at {l : List UInt8} {n : Nat} (h : l.length = n) : Quill.numB n (Quill.tell l) = l := by subst h; exact Quill.numB_tell l
theorem tell_lt (l : List UInt8) : Quill.tell l < 256 ^ l.length := by
 have h1 := Quill.tell_numB l.length (Quill.tell l)
 rw [Quill.numB_tell] at h1
 rw [h1]
 exact Nat.mod_lt _ (Nat.pow_pos (by decide))
theorem payR_f {p : List UInt8} (h : 9 ≤ p.length) : payR (fA p) (fZ p) (fU p) = p.take 9 := by
 unfold payR fA fZ fU
 rw [numB_at (by rw [List.length_take]; omega), numB_at (by rw [List.length_take, List.length_drop]; omega), numB_at (by rw [List.length_take, List.length_drop]; omega)]
 rw [show (9 : Nat) = 1 + 4 + 4 from rfl, List.take_add, List.take_add]
theorem f_payR {a z u : Nat} (ha : a < 256) (hz : z < 4294967296) (hu : u < 4294967296) (r : List UInt8) : fA (payR a z u ++ r) = a ∧ fZ (payR a z u ++ r) = z ∧ fU (payR a z u ++ r) = u := by
 have l1 := Quill.numB_length 1 a
 have l4 := Quill.numB_length 4 z
 have l5 := Quill.numB_length 4 u
 refine ⟨?_, ?_, ?_⟩
 ·unfold fA payR
  rw [List.append_assoc, List.append_assoc, List.take_left' l1, Quill.tell_numB]; omega
 ·unfold fZ payR
  rw [List.append_assoc, List.append_assoc, List.drop_left' l1, List.take_left' l4, Quill.tell_numB]; omega
 ·unfold fU payR
  rw [List.append_assoc, List.drop_left' (by simp [l1, l4]), List.take_left' l5, Quill.tell_numB]; omega
theorem f_lt {p : List UInt8} (h : 9 ≤ p.length) : fA p < 256 ∧ fZ p < 4294967296 ∧ fU p < 4294967296 := by
 have h1 := tell_lt (p.take 1)
 have h2 := tell_lt ((p.drop 1).take 4)
 have h3 := tell_lt ((p.drop 5).take 4)
 rw [List.length_take, Nat.min_eq_left (by omega)] at h1
 rw [List.length_take, List.length_drop, Nat.min_eq_left (by omega)] at h2 h3
 exact ⟨h1, h2, h3⟩
theorem opn_parts {s p : List UInt8} {m : Nat} (h : opn s = (m, p, 0)) : s = Quill.numB 8 m ++ p ++ Quill.numB 8 m ∧ p.length = 48 ∧ m ≠ 0 ∧ m < 18446744073709551616 := by
 unfold opn at h
 split at h
 ·cases h
 rename_i hl
 have hl : s.length = 64 := by omega
 split at h
 ·cases h
 rename_i he
 split at h
 ·cases h
 rename_i h0
 injection h with e1 e2
 injection e2 with e2 _
 subst e1
 have he : hdM s = tlM s := by omega
 have hlt := tell_lt (s.take 8)
 rw [List.length_take, Nat.min_eq_left (by omega)] at hlt
 refine ⟨?_, by rw [← e2, List.length_take, List.length_drop]; omega, h0, hlt⟩
 have k1 : Quill.numB 8 (hdM s) = s.take 8 := numB_at (by rw [List.length_take]; omega)
 have k2 : Quill.numB 8 (tlM s) = s.drop 56 := numB_at (by rw [List.length_drop]; omega)
 rw [← he] at k2
 have k3 : (s.drop 8).take 48 ++ s.drop 56 = s.drop 8 := by
  rw [show s.drop 56 = (s.drop 8).drop 48 by rw [List.drop_drop], List.take_append_drop]
 have k4 : Quill.numB 8 (hdM s) ++ p ++ Quill.numB 8 (hdM s) = s.take 8 ++ p ++ s.drop 56 := congr (congrArg HAppend.hAppend (congrArg (· ++ p) k1)) k2
 rw [k4, ← e2, List.append_assoc, k3, List.take_append_drop]
def payOk (p : List UInt8) : Prop := (p.drop 9).take 4 = Crc.four (Crc.sum (p.take 9)) ∧ ∀ i, i < 35 → byteAt (p.drop 13) i = 0
theorem zeros_of {q : List UInt8} {n : Nat} (hl : q.length = n) (h : ∀ i, i < n → byteAt q i = 0) : q = List.replicate n 0 := by
 apply List.ext_getElem?
 intro i
 by_cases hi : i < n
 ·have := h i hi
  rw [byteAt_lt (by omega)] at this
  rw [List.getElem?_eq_getElem (by omega), this, List.getElem?_replicate, if_pos hi]
 ·rw [List.getElem?_eq_none (by omega), List.getElem?_eq_none (by simp; omega)]
theorem pay_eq {p : List UInt8} (hl : p.length = 48) (h : payOk p) : padR (Crc.sealed (payR (fA p) (fZ p) (fU p))) = p := by
 have h0 := zeros_of (q := p.drop 13) (n := 35) (by rw [List.length_drop]; omega) h.2
 rw [padR, sealed9, payR_f (by omega), Crc.sealed, ← h.1, List.append_assoc, show (48 - 13) = 35 from rfl, ← h0]
 have k1 : (p.drop 9).take 4 ++ p.drop 13 = p.drop 9 := by
  rw [show p.drop 13 = (p.drop 9).drop 4 by rw [List.drop_drop], List.take_append_drop]
 rw [k1, List.take_append_drop]
theorem sec_eq (m : Nat) (q : List UInt8) : sec m q = Quill.numB 8 m ++ padR q ++ Quill.numB 8 m := by simp only [sec, padR, List.append_assoc]
theorem pay_ok {a z u : Nat} : payOk (padR (Crc.sealed (payR a z u))) := by
 have hl := payR_len a z u
 constructor
 ·rw [padR, Crc.sealed, List.append_assoc, List.drop_left' hl, List.take_left' (Crc.four_length _), List.take_left' hl]
 ·intro i hi
  rw [padR, List.drop_left' (sealed9 a z u), sealed9, byteAt_lt (by simpa using hi), List.getElem_replicate]
end Go.Proofs.YtbaedepmogkkeaaGreat.Av
namespace Go.Proofs.YtbaedepmogkkeaaGreat.Av
open Go Go.RowKit
set_option linter.unusedVariables false
set_option linter.unusedSimpArgs false
set_option maxRecDepth 100000
theorem num_z (t : List UInt8) (h : t.length = 9) (p : Nat) (k : Nat) (hk : 1 ≤ k) (hk8 : k ≤ 8) (hp : p + k ≤ 9) : Quill.Sc.num ⟨t, (p : Int), 0⟩ (k : Int) = (Quill.tell ((t.drop p).take k), ⟨t, ((p + k : Nat) : Int), 0⟩) := by
 unfold Quill.Sc.num
 rw [if_neg (by simp), if_neg (by simp [Quill.Sc.stands, h]; omega), if_neg (by simp [h]; omega)]
 simp only [Int.toNat_natCast]
 rfl
theorem num_p (t : List UInt8) (h : t.length = 48) (p : Nat) (k : Nat) (hk : 1 ≤ k) (hk8 : k ≤ 8) (hp : p + k ≤ 9) : Quill.Sc.num ⟨t, (p : Int), 0⟩ (k : Int) = (Quill.tell ((t.drop p).take k), ⟨t, ((p + k : Nat) : Int), 0⟩) := by
 unfold Quill.Sc.num
 rw [if_neg (by simp), if_neg (by simp [Quill.Sc.stands, h]; omega), if_neg (by simp [h]; omega)]
 simp only [Int.toNat_natCast]
 rfl
theorem scan_ok (t : List UInt8) (g : Int) (h : t.length = 9) : SP 214 [U g, T t] (rt g (fA t) (fZ t) (fU t)) := by
 have c1 := scannum_snd t ((0 : Nat) : Int) 0 ((1 : Nat) : Int) (by omega)
 have c2 := scannum_snd t ((1 : Nat) : Int) 0 ((4 : Nat) : Int) (by omega)
 have c3 := scannum_snd t ((5 : Nat) : Int) 0 ((4 : Nat) : Int) (by omega)
 rw [num_z t h 0 1 (by omega) (by omega) (by omega)] at c1
 rw [num_z t h 1 4 (by omega) (by omega) (by omega)] at c2
 rw [num_z t h 5 4 (by omega) (by omega) (by omega)] at c3
 have hl := f_lt (p := t) (by omega)
 exact scan_walk t g (fA t) (fZ t) (fU t) _ _ _ hl.1 hl.2.1 hl.2.2 c1 c2 c3
def erR (s : List UInt8) : Int := if (opn s).2.2 = 0 then 4 else (opn s).2.2
def NoR (s : List UInt8) : Prop := ∀ g a z u : Nat, OkR g a z → u < 4294967296 → s ≠ rootS g a z u
theorem opn_root {g a z u : Nat} (h : OkR g a z) : opn (rootS g a z u) = (g * 1048576 + 1, padR (Crc.sealed (payR a z u)), 0) :=
 sec_opn (by omega) (by have := h.nat; omega) (by rw [sealed9]; omega)
theorem crc13 {p : List UInt8} (hl : p.length = 48) : Crc.opened (p.take 13) = (p.take 9, 0) ∧ (p.drop 9).take 4 = Crc.four (Crc.sum (p.take 9)) ∨ (Crc.opened (p.take 13)).2 = 10 ∧ ¬ (p.drop 9).take 4 = Crc.four (Crc.sum (p.take 9)) := by
 have h13 : (p.take 13).length = 13 := by rw [List.length_take]; omega
 have e1 : (p.take 13).take ((p.take 13).length - 4) = p.take 9 := by rw [h13, List.take_take]; rfl
 have e2 : (p.take 13).drop ((p.take 13).length - 4) = (p.drop 9).take 4 := by rw [h13, List.drop_take]
 by_cases h : (p.drop 9).take 4 = Crc.four (Crc.sum (p.take 9))
 ·refine .inl ⟨?_, h⟩
  have := Crc.opened_yes (l := p.take 13) (by omega) (by rw [e1, e2, h]; exact beq_self_eq_true _)
  rw [this, e1]
 ·refine .inr ⟨?_, h⟩
  have := Crc.opened_no (l := p.take 13) (by omega) (by rw [e1, e2]; simpa using fun hh => h hh.symm)
  rw [this]
theorem cut13 (p : List UInt8) : (bs p).extract (0 : Int).toNat (13 : Int).toNat = bs (p.take 13) := by rw [bs_cut]; rfl
theorem cut13T (p : List UInt8) : T (p.take 13) = .ex (.string ((bs p).extract (0 : Int).toNat (13 : Int).toNat)) := by rw [cut13]
theorem cut35 {p : List UInt8} (hl : p.length = 48) : (bs p).extract (13 : Int).toNat ((bs p).size : Int).toNat = bs (p.drop 13) := by
 rw [bs_cut, bs_size, hl]
 rw [List.take_of_length_le (by rw [List.length_drop, hl]; decide)]
 rfl
theorem first_byte (q : List UInt8) : ∀ n, (∀ i, i < n → byteAt q i = 0) ∨ ∃ j, j < n ∧ (∀ i, i < j → byteAt q i = 0) ∧ byteAt q j ≠ 0
 | 0 => .inl fun i hi => by omega
 | n + 1 => by
  rcases first_byte q n with h | ⟨j, h1, h2, h3⟩
  ·by_cases h0 : byteAt q n = 0
   ·refine .inl fun i hi => ?_
    by_cases e : i = n
    ·rw [e]; exact h0
    ·exact h i (by omega)
   ·exact .inr ⟨n, by omega, h, h0⟩
  ·exact .inr ⟨j, by omega, h2, h3⟩
theorem rootopen_yes {g a z u : Nat} (h : OkR g a z) (hu : u < 4294967296) : SP 189 [T (rootS g a z u)] (.tup [rt g a z u, Z 0]) := by
 have hn := h.nat
 have hO := open_ok (rootS g a z u)
 rw [opn_root h] at hO
 have hpl : (padR (Crc.sealed (payR a z u))).length = 48 := pad_len (by rw [sealed9]; omega)
 have hok := pay_ok (a := a) (z := z) (u := u)
 have hP := parts_yes (m := g * 1048576 + 1) (by unfold OkP; omega)
 rw [show ((g * 1048576 + 1 : Nat) : Int) / 1048576 = (g : Int) by omega, show ((g * 1048576 + 1 : Nat) : Int) % 1048576 - 1 = 0 by omega] at hP
 have ht9 : (padR (Crc.sealed (payR a z u))).take 9 = payR a z u := by rw [padR, Crc.sealed, List.append_assoc, List.take_left' (payR_len a z u)]
 have hC := crcopen_ok ((padR (Crc.sealed (payR a z u))).take 13) (by rw [List.length_take]; omega)
 rcases crc13 hpl with ⟨hc, _⟩ | ⟨_, hc⟩
 case inr => exact absurd hok.1 hc
 rw [hc, cut13T] at hC
 dsimp only at hC
 rw [ht9] at hC
 have hS := scan_ok (payR a z u) g (payR_len a z u)
 have hf := f_payR (a := a) (z := z) (u := u) (by omega) (by omega) hu []
 rw [List.append_nil] at hf
 rw [hf.1, hf.2.1, hf.2.2] at hS
 exact ropen_6 _ _ _ ((padR (Crc.sealed (payR a z u))).drop 13) _ 0 g (by rw [bs_size]; exact hpl) hO hP hC (cut35 hpl) (by rw [List.length_drop]; omega) (by rw [bs_size, List.length_drop]; omega) a z u hok.2 hS (check_yes h)
theorem rootopen_no {s : List UInt8} (h : NoR s) : SP 189 [T s] (.tup [rt 0 0 0 0, Z (erR s)]) := by
 have hO := open_ok s
 by_cases he : (opn s).2.2 = 0
 case neg => unfold erR; rw [if_neg he]; exact ropen_1 s _ _ _ he hO
 unfold erR
 rw [if_pos he]
 rcases hs : opn s with ⟨m, p, e⟩
 rw [hs] at hO he
 have he : e = 0 := he
 subst he
 dsimp only at hO
 obtain ⟨e1, hpl, hm0, hm1⟩ := opn_parts hs
 by_cases hp : OkP m
 case neg => exact ropen_2 s p m _ _ false (.inl rfl) hO (parts_no hm1 hp)
 have hP := parts_yes hp
 have hp' : 1048576 ≤ m ∧ m < 1152921504607895552 ∧ (m : Int) % 1048576 ≠ 0 := hp
 by_cases hpl0 : (m : Int) % 1048576 - 1 = 0
 case neg => exact ropen_2 s p m _ _ true (.inr hpl0) hO hP
 rw [hpl0] at hP
 have hC := crcopen_ok (p.take 13) (by rw [List.length_take]; omega)
 rw [cut13T] at hC
 have hb : (bs p).size = 48 := by rw [bs_size]; exact hpl
 rcases crc13 hpl with ⟨hc, hc2⟩ | ⟨hc, _⟩
 case inr => exact ropen_3 s p _ m _ _ hb (by rw [hc]; decide) hO hP hC
 rw [hc] at hC
 dsimp only at hC
 rcases first_byte (p.drop 13) 35 with hz | ⟨j, hj, h1, h2⟩
 case inr => exact ropen_4 s p _ (p.drop 13) m j _ hb hO hP hC (cut35 hpl) (by rw [List.length_drop]; omega) (by rw [bs_size, List.length_drop]; omega) hj h1 h2
 have hS := scan_ok (p.take 9) ((m : Int) / 1048576) (by rw [List.length_take]; omega)
 have hf1 : fA (p.take 9) = fA p := by unfold fA; rw [List.take_take]; rfl
 have hf2 : fZ (p.take 9) = fZ p := by unfold fZ; rw [List.drop_take, List.take_take]; rfl
 have hf3 : fU (p.take 9) = fU p := by unfold fU; rw [List.drop_take, List.take_take]; rfl
 rw [hf1, hf2, hf3] at hS
 have hlt := f_lt (p := p) (by omega)
 by_cases hk : OkR ((m : Int) / 1048576) (fA p) (fZ p)
 case neg => exact ropen_5 s p _ (p.drop 13) m 0 _ hb hO hP hC (cut35 hpl) (by rw [List.length_drop]; omega) (by rw [bs_size, List.length_drop]; omega) _ _ _ hz hS (check_no hk)
 exfalso
 have hk2 : OkR ((m / 1048576 : Nat) : Int) (fA p) (fZ p) := hk
 refine h (m / 1048576) (fA p) (fZ p) (fU p) hk2 hlt.2.2 ?_
 rw [rootS, sec_eq, pay_eq hpl ⟨hc2, hz⟩, show m / 1048576 * 1048576 + 1 = m by omega]
 exact e1
/-! ### by the document -/
theorem rscan (p : List UInt8) (hl : p.length = 48) : SP 135 [scM p 0 0, Z 1] (numM (fA p) p 1 0) ∧ SP 135 [scM p 1 0, Z 4] (numM (fZ p) p 5 0) ∧ SP 135 [scM p 5 0, Z 4] (numM (fU p) p 9 0) := by
 have c1 := takenum_snd p ((0 : Nat) : Int) 0 ((1 : Nat) : Int) (by omega)
 have c2 := takenum_snd p ((1 : Nat) : Int) 0 ((4 : Nat) : Int) (by omega)
 have c3 := takenum_snd p ((5 : Nat) : Int) 0 ((4 : Nat) : Int) (by omega)
 rw [num_p p hl 0 1 (by omega) (by omega) (by omega)] at c1
 rw [num_p p hl 1 4 (by omega) (by omega) (by omega)] at c2
 rw [num_p p hl 5 4 (by omega) (by omega) (by omega)] at c3
 exact ⟨c1, c2, c3⟩
theorem rrootopen_yes {g a z u : Nat} (h : OkR g a z) (hu : u < 4294967296) : SP 194 [T (rootS g a z u)] (.tup [rt g a z u, Z 0]) := by
 have hn := h.nat
 have hO := ropen_ok (rootS g a z u)
 rw [opn_root h] at hO
 have hpl : (padR (Crc.sealed (payR a z u))).length = 48 := pad_len (by rw [sealed9]; omega)
 have hP := rparts_yes (m := g * 1048576 + 1) (by unfold OkP; omega)
 rw [show ((g * 1048576 + 1 : Nat) : Int) / 1048576 = (g : Int) by omega, show ((g * 1048576 + 1 : Nat) : Int) % 1048576 - 1 = 0 by omega] at hP
 have hf := f_payR (a := a) (z := z) (u := u) (by omega) (by omega) hu (Crc.four (Crc.sum (payR a z u)) ++ List.replicate (48 - (Crc.sealed (payR a z u)).length) 0)
 rw [show payR a z u ++ (Crc.four (Crc.sum (payR a z u)) ++ List.replicate (48 - (Crc.sealed (payR a z u)).length) 0) = padR (Crc.sealed (payR a z u)) by rw [padR, ← List.append_assoc]; rfl] at hf
 obtain ⟨c1, c2, c3⟩ := rscan _ hpl
 rw [hf.1] at c1
 rw [hf.2.1] at c2
 rw [hf.2.2] at c3
 exact rropen_3 _ _ _ a z u g _ _ _ _ _ (by omega) (by omega) hu hO hP c1 c2 c3 (rrseal_ok h hu)
theorem rrootopen_no {s : List UInt8} (h : NoR s) : SP 194 [T s] (.tup [rt 0 0 0 0, Z (erR s)]) := by
 have hO := ropen_ok s
 by_cases he : (opn s).2.2 = 0
 case neg => unfold erR; rw [if_neg he]; exact rropen_1 s _ _ _ he hO
 unfold erR
 rw [if_pos he]
 rcases hs : opn s with ⟨m, p, e⟩
 rw [hs] at hO he
 have he : e = 0 := he
 subst he
 dsimp only at hO
 obtain ⟨e1, hpl, hm0, hm1⟩ := opn_parts hs
 have hlt := f_lt (p := p) (by omega)
 obtain ⟨c1, c2, c3⟩ := rscan p hpl
 by_cases hp : OkP m
 ·have hP := rparts_yes hp
  by_cases hk : OkR ((m : Int) / 1048576) (fA p) (fZ p)
  ·have hk2 : OkR ((m / 1048576 : Nat) : Int) (fA p) (fZ p) := hk
   exact rropen_2 s p _ m _ _ _ _ _ _ _ _ 0 _ hlt.1 hlt.2.1 hlt.2.2 (.inr fun e => h _ _ _ _ hk2 hlt.2.2 e.symm) hO hP c1 c2 c3 (rrseal_ok hk2 hlt.2.2)
  ·exact rropen_2 s p _ m _ _ _ _ _ _ _ _ 2 _ hlt.1 hlt.2.1 hlt.2.2 (.inl (by decide)) hO hP c1 c2 c3 (rrseal_no hk)
 ·exact rropen_2 s p _ m _ _ _ _ _ _ _ _ 2 _ hlt.1 hlt.2.1 hlt.2.2 (.inl (by decide)) hO (rparts_no hm1 hp) c1 c2 c3 (rrseal_no (fun hh => by have := hh.1; omega))
end Go.Proofs.YtbaedepmogkkeaaGreat.Av
