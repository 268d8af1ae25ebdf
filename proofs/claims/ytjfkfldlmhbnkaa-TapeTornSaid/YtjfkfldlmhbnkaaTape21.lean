/- tape: the law that texts come back is true of all texts. No conditions but that numbers have 64 bits. -/
import Derived.Test.YtjfkfldlmhbnkaaTape19
namespace Go.Proofs.Ytjfkfldlmhbnkaa.Av
open Go Go.RowKit
set_option linter.unusedVariables false
set_option linter.unusedSimpArgs false
set_option maxRecDepth 100000

theorem few_yes {L : List (List UInt8)} (h : GoodL L) (hl : L.length ≤ 12) : SP 51 [.vs L.length (L.map T)] (B true) :=
  few_loop L true (by omega) (.inl ⟨fun i hi => by
    have := h _ (List.getElem_mem hi)
    have hp := List.length_pos_iff.2 this.1
    rw [bs_size]; omega, by simp; omega⟩)
theorem few_no {L : List (List UInt8)} (hL : L.length ≤ 9223372036854775807) (h : ¬ (GoodL L ∧ L.length ≤ 12)) : SP 51 [.vs L.length (L.map T)] (B false) := by
  by_cases hg : GoodL L
  · have hl : ¬ L.length ≤ 12 := fun hl => h ⟨hg, hl⟩
    refine few_loop L false hL (.inl ⟨fun i hi => by
      have := hg _ (List.getElem_mem hi)
      have hp := List.length_pos_iff.2 this.1
      rw [bs_size]; omega, by simp; omega⟩)
  · refine few_loop L false hL (.inr ⟨?_, rfl⟩)
    have hex : ∃ i, ∃ h : i < L.length, ((bs L[i]).size < 1 ∨ 200 < (bs L[i]).size) := by
      apply Classical.byContradiction
      intro hc
      apply hg
      intro t ht
      obtain ⟨i, hi, rfl⟩ := List.getElem_of_mem ht
      have : ¬ ((bs L[i]).size < 1 ∨ 200 < (bs L[i]).size) := fun e => hc ⟨i, hi, e⟩
      rw [bs_size] at this
      exact ⟨fun e => by rw [e] at this; simp at this, by omega⟩
    obtain ⟨i, hi, hbad⟩ := hex
    induction i using Nat.strongRecOn with
    | ind i ih =>
      by_cases hp : ∃ j, ∃ h : j < L.length, j < i ∧ ((bs L[j]).size < 1 ∨ 200 < (bs L[j]).size)
      · obtain ⟨j, hj, hji, hb⟩ := hp
        exact ih j hji hj hb
      · refine ⟨i, hi, hbad, fun j hj hji => ?_⟩
        have : ¬ ((bs L[j]).size < 1 ∨ 200 < (bs L[j]).size) := fun e => hp ⟨j, hj, hji, e⟩
        omega
theorem laid_ok {L : List (List UInt8)} {g : Nat} (hg : 1 ≤ g ∧ g ≤ 1099511627776) (h : GoodL L) (hl : L.length ≤ 12) : SP 52 [.vs L.length (L.map T), U g] (.tup [.own 9 (lenL L) ((laidL g 0 L).map T), B true]) := by
  have hle := lenL_le h
  have := laid_walk L g (fun i => (laidL g 0 (L.take i)).map T) (fun i => match L[i]? with | some t => (layT t g ((lenL (L.take i) : Nat) : Int)).map T | none => []) (fun i => lenL (L.take i)) (fun i => match L[i]? with | some t => szT t.length | none => 0) hl
    (fun i hi => by have := lenL_mono L (i := i); omega)
    (fun i hi => by
      have ht := h _ (List.getElem_mem hi)
      have hsz := szT_good ht
      have hm := lenL_mono L (i := i)
      have := lay_yes (t := L[i]) (g := g) (at_ := ((lenL (L.take i) : Nat) : Int)) (most := 256) ⟨hg.1, hg.2, ht.1, by omega, by omega, by omega, by omega, by omega, by omega⟩
      rw [npc_row ht.1 (by omega)] at this
      simp only [List.getElem?_eq_getElem hi]
      exact this)
    (fun i hi => by
      have := size_ok (L[i]).length
      simp only [List.getElem?_eq_getElem hi]
      rw [bs_size]; exact this)
    (fun i hi => by simp only [List.getElem?_eq_getElem hi]; rw [laidL_take g L hi, List.map_append])
    (fun i hi => by simp only [List.getElem?_eq_getElem hi]; rw [lenL_take L hi])
    (fun i hi => by rw [List.length_map, laidL_len g (h.take i)])
    (fun i hi => by simp only [List.getElem?_eq_getElem hi]; rw [List.length_map, layT_len (h _ (List.getElem_mem hi))])
    (fun i hi v hv => by
      simp only [List.getElem?_eq_getElem hi] at hv
      obtain ⟨x, _, rfl⟩ := List.mem_map.1 hv
      rfl)
    rfl rfl
  simp only [List.take_length] at this
  exact this
theorem takeL_T (M : List (List UInt8)) (i : Nat) : takeL (M.map T) (mulS (0 : Int).toNat (sizeT Try.prog 9)) (mulS ((i : Int).toNat - (0 : Int).toNat) (sizeT Try.prog 9)) = (M.take i).map T := by
  rw [hs1', mulS_eq, mulS_eq, takeL, Nat.mul_one, Nat.mul_one, List.map_take]
  rfl
theorem cutA_T (M : List (List UInt8)) {i : Nat} (hi : i ≤ M.length) : cutA (M.map T) (i : Int) = .vs (M.take i).length ((M.take i).map T) := by
  show AV.vs _ _ = _
  rw [takeL_T, List.length_take, Nat.min_eq_left hi]
  rfl
theorem back17_all (L : List (List UInt8)) (a b c : Nat) (hL : L.length ≤ 9223372036854775807) (ha : a < 4294967296) (hb : b < 4294967296) (hc : c < 256) : SP 13 [.vs L.length (L.map T), gens a b, .ex (.int .u8 c)] (B true) := by
  by_cases hgl : GoodL L ∧ L.length ≤ 12
  · obtain ⟨h, hl⟩ := hgl
    have hle := lenL_le h
    have hg : 1 ≤ a + 1 ∧ a + 1 ≤ 1099511627776 := by omega
    have hk := laidL_len (a + 1) h 0
    have hcut : cutI c (lenL L) = ((c % (lenL L + 1) : Nat) : Int) := by show (c : Int) % ((lenL L : Int) + 1) = _; rw [Int.natCast_emod, Int.natCast_add]; rfl
    have hml : c % (lenL L + 1) < lenL L + 1 := Nat.mod_lt _ (by omega)
    obtain ⟨h1, h2, h3⟩ := fitN_ok L (c % (lenL L + 1))
    have e3 := scan_cut (n := c % (lenL L + 1)) hg h hl (by omega) (((laidL (a + 1) 0 L).take (c % (lenL L + 1))).length + 1)
    have hlen3 : ((laidL (a + 1) 0 L).take (c % (lenL L + 1))).length = c % (lenL L + 1) := by rw [List.length_take]; omega
    have hfit : (L.take (fitN L (c % (lenL L + 1)))).length = fitN L (c % (lenL L + 1)) := by rw [List.length_take]; omega
    have hlk := (lenL_le (h.take (fitN L (c % (lenL L + 1))))).1
    have hg1 : IntKind.u64.wrap ((a : Int) + 1) = ((a + 1 : Nat) : Int) := (wrap_u64 (by omega) (by omega)).trans (by omega)
    have hg2 : IntKind.u64.wrap ((b : Int) + 1) = ((b + 1 : Nat) : Int) := (wrap_u64 (by omega) (by omega)).trans (by omega)
    -- the three scans
    have s1 := scan_walk (laidL (a + 1) 0 L) (a + 1) (by omega) (L, ((lenL L : Nat) : Int)) (by
      obtain ⟨f1, f2, f3⟩ := fitN_ok L (lenL L)
      have hfe : fitN L (lenL L) = L.length := by
        rcases f3 with f3 | ⟨f3, f4⟩
        · exact f3
        · have m1 := lenL_mono L (i := fitN L (lenL L) + 1)
          have m2 := lenL_take L f3
          omega
      have := scan_cut (n := lenL L) hg h hl (Nat.le_refl _) ((laidL (a + 1) 0 L).length + 1) (by omega)
      rw [List.take_of_length_le (by omega), hfe, List.take_length] at this
      exact this)
    have s2 := scan_walk (laidL (a + 1) 0 L) (b + 1) (by omega) _ rfl
    have s3 := scan_walk ((laidL (a + 1) 0 L).take (c % (lenL L + 1))) (a + 1) (by omega) _ (scan_cut (n := c % (lenL L + 1)) hg h hl (by omega) _ (by omega))
    have hgh : (((a + 1 : Nat) : Int) = ((b + 1 : Nat) : Int)) ∨ ((scanO (laidL (a + 1) 0 L) (b + 1) ((laidL (a + 1) 0 L).length + 1) 0).1.length = 0 ∧ (scanO (laidL (a + 1) 0 L) (b + 1) ((laidL (a + 1) 0 L).length + 1) 0).2 = 0) := by
      by_cases e : a + 1 = b + 1
      · exact .inl (by omega)
      · right; rw [scan_gen hg h e]; exact ⟨rfl, rfl⟩
    have same1 := same_vv L L (by omega) (by omega)
    rw [decide_eq_true rfl] at same1
    have same2 := same_vv (L.take (fitN L (c % (lenL L + 1)))) (L.take (fitN L (c % (lenL L + 1)))) (by omega) (by omega)
    rw [decide_eq_true rfl] at same2
    rw [hk] at s1 s2 hgh
    rw [hlen3] at s3
    refine tback_all L a b c (a + 1) (b + 1) (lenL L) _ _ _ _ _ _ _ hc hl (by omega) (by rw [List.length_map, hk]) ha hb hg1 hg2 (by rw [hcut]; omega) (by rw [hcut]; omega) (few_yes h hl) (laid_ok hg h hl) s1 same1 s2 hgh (by rw [hcut, cutA_T _ (by omega), hlen3]; exact s3) (by show (L.take _).length ≤ _; omega) (by rw [hcut]; show ((lenL _ : Nat) : Int) ≤ _; omega) (by show (0 : Int) ≤ ((lenL _ : Nat) : Int); omega) (by rw [hs1', List.length_map]; omega) ?_ ?_
    · rw [hfit, cutA_T _ h1, hfit]
      show SP _ [.vs _ _, .vs _ _] _
      have e := same2
      rw [show txs (L.take (fitN L (c % (lenL L + 1)))) = .vs (fitN L (c % (lenL L + 1))) ((L.take (fitN L (c % (lenL L + 1)))).map T) by show AV.vs _ _ = _; rw [hfit]] at e
      exact e
    · rw [hfit]
      rcases h3 with h3 | ⟨h3, h4⟩
      · exact .inl h3
      · have ht := h _ (List.getElem_mem h3)
        have hsz := szT_good ht
        refine .inr ⟨L[fitN L (c % (lenL L + 1))], ((szT (L[fitN L (c % (lenL L + 1))]).length : Nat) : Int), h3, atI_T h3, ?_, by omega, by omega, by rw [hcut]; show _ < ((lenL _ : Nat) : Int) + _; omega⟩
        rw [bs_size]; exact size_ok _
  · exact tback_out L a b c (few_no hL hgl)
theorem cells_ww {cs : Array Value} (h : CellsOk [.int .u32, .int .u32] cs.toList) : ∃ a b : Nat, a < 4294967296 ∧ b < 4294967296 ∧ cs = #[.int .u32 a, .int .u32 b] := by
  obtain ⟨v0, r0, e0, ⟨k0, rfl, hk0⟩, hr0⟩ := h.cons_
  obtain ⟨v1, r1, e1, ⟨k1, rfl, hk1⟩, hr1⟩ := hr0.cons_
  have e2 := hr1.empty_
  subst e2 e1
  have b0 := bounds_u32 hk0
  have b1 := bounds_u32 hk1
  refine ⟨k0.toNat, k1.toNat, by omega, by omega, ?_⟩
  rw [Int.toNat_of_nonneg b0.1, Int.toNat_of_nonneg b1.1]
  apply Array.ext'
  rw [e0]
theorem tapeBack_walk (rows : List (List Value)) (k : Nat) (F : Nat → Nat → Prop) (v : Value) (b : Array Value) (c : UInt8) (w : World) (hq : rows.length = k) (hz : k ≤ 9223372036854775807)
    (hok : ∀ r ∈ rows, CellsOk [.str] r) (hlo : ∀ g j, F g j → g < w.heap.size) (hrep : ∀ F' : Nat → Nat → Prop, (∀ g j, F g j → F' g j) → Rep w p0 c0 F' noD (.vs k (rows.flatten.map .ex)) v) (hb : CellsOk [.int .u32, .int .u32] b.toList) :
    Calls Try.prog 13 #[v, .agg b, .int .u8 (c.toNat : Int)] w fun e w' => e = .returned (.bool true) ∧ Below w.heap.size w w' := by
  obtain ⟨g, h, h0, h1, rfl⟩ := cells_ww hb
  obtain ⟨L, e1, e2, e3⟩ := rows_T hok
  have hr := hrep F fun _ _ h => h
  rw [e2, ← hq, ← e1] at hr
  refine calls_at (back17_all L g h c.toNat (by omega) h0 h1 c.toNat_lt) w F hlo _ rfl fun j hj => ?_
  match j, hj with
  | 0, _ => exact hr
  | 1, _ => exact .ex _ _
  | 2, _ => exact .ex _ _
end Go.Proofs.Ytjfkfldlmhbnkaa.Av
