/- tree: the law TreeAsks holds of any ops, key and numbers. No conditions. -/
import Derived.Test.YtdicpbecdhaphaaTree20
import Derived.Test.YtdicpbecdhaphaaTree19
namespace Go.Proofs.Ytdicpbecdhaphaa.Av
open Go Go.RowKit Go.ChangeShapes Go.WideShapes Tre
set_option linter.unusedVariables false
set_option linter.unusedSimpArgs false
set_option maxRecDepth 100000
set_option maxHeartbeats 2000000

/-- the tree that ops make out of nothing, and its pairs -/
structure Made (os : List OpP) (U : Tr) (r : List Pr) : Prop where
  good : Tr.Good U
  list : U.toL = r
  len : r.length ≤ 50
  key : ∀ x ∈ r, x.1.length ≤ 300000000 ∧ x.2.length ≤ 300000000
  cn : U.cn ≤ 50
  wt : U.wt ≤ 100000
  bytes : bytesL r ≤ 100000
  tree : SP 19 [zT, .vs os.length (opC os)] (trA U)
  ref : SP 16 [nilA, .vs os.length (opC os)] (.vs r.length (prC r))
  own : SP 20 [.vs os.length (opC os)] (.vs os.length (opC os))
theorem over_in {os : List OpP} (h : ¬ Over13 os) : os.length ≤ 50 ∧ ∀ o ∈ os, o.2.1.length ≤ 150 ∧ o.2.2.length ≤ 1000 := by
  refine ⟨?_, fun o ho => ?_⟩
  · apply Classical.byContradiction; intro e; exact h (.inl (by omega))
  · constructor <;> (apply Classical.byContradiction; intro e; exact h (.inr ⟨o, ho, by omega⟩))
theorem made_of {os : List OpP} (h : ¬ Over13 os) : Made os (Tr.apply os .nil) (applyL os []) := by
  obtain ⟨hn, hk⟩ := over_in h
  have A := aft os hn hk os.length (Nat.le_refl _)
  rw [List.take_length] at A
  have e := A.list
  rw [List.take_length] at e
  have l := A.len (by omega)
  have s := A.sz
  have k := A.key
  rw [e] at l s k
  have z := (Tre.applyL_len (a := 150) (b := 1000) os [] (fun o ho => hk o ho)).2
  have z2 : bytesL (applyL os []) ≤ 100000 := by
    have : bytesL ([] : List Pr) = 0 := rfl
    omega
  refine ⟨A.good, e, l, k, ?_, ?_, z2, ?_, papply_nil os (by omega) (fun o ho => by have := hk o ho; omega) _ rfl, own13_ok os (by omega)⟩
  · rw [Tr.cn_len, e]; omega
  · rw [Tr.wt_len, e]; omega
  · exact zw (tapply_ok Tr.good_nil ⟨by show (0 : Int) + _ ≤ _; omega, fun o ho => by have := hk o ho; omega, by show (0 : Int) + _ ≤ _; omega⟩ _ rfl)
theorem asks_ok (os : List OpP) (hl : os.length ≤ 9223372036854775807) (k : Key) (hkl : k.length ≤ 9223372036854775807) (a b : Int) (ha1 : -9223372036854775808 ≤ a) (ha2 : a ≤ 9223372036854775807) : SP 4 [.vs os.length (opC os), T k, two a b] (B true) := by
  by_cases h : Over13 os
  · exact asks_over os k a b (over13_yes hl h) awake14_ok
  by_cases hk : 150 < k.length
  · exact asks_long os k a b (by rw [bs_size]; exact hk) (over13_no h) awake14_ok
  have m := made_of h
  generalize Tr.apply os .nil = U at m
  generalize applyL os [] = r at m
  obtain ⟨u, hu⟩ : ∃ u, u = underL k r := ⟨_, rfl⟩
  have hul : u.length ≤ 50 := by rw [hu]; exact Nat.le_trans (List.length_filter_le _ _) m.len
  obtain ⟨M, hM⟩ : ∃ M, M = mostI b u.length := ⟨_, rfl⟩
  have hMb : 0 ≤ M ∧ M ≤ (u.length : Int) := by
    rw [hM]; unfold mostI
    split <;> split <;> omega
  have prs : PrsOk r := ⟨by have := m.len; omega, fun p hp => by have := m.key p hp; omega⟩
  have ml := m.len
  have mr := m.list
  have srt := m.good.srt
  have key : ∀ x ∈ U.toL, x.1.length ≤ 1000000000 := fun x hx => by rw [mr] at hx; have := m.key x hx; omega
  have told : ∀ i : Int, SP 28 [trA U, T k, Z i] (.vs (u.take i.toNat).length (prC (u.take i.toNat))) := fun i => by
    have := told_ok U k i srt (by rw [mr]; omega) key (by omega)
    rwa [mr, ← hu] at this
  have t1 := told ((u.length : Int) + 1)
  rw [List.take_of_length_le (by omega)] at t1
  have s1 := psame_ok u u (by omega) (by omega)
  rw [decide_eq_true rfl] at s1
  obtain ⟨j, rfl⟩ : ∃ j : Nat, M = (j : Int) := ⟨M.toNat, by omega⟩
  have t2 := told (j : Int)
  rw [Int.toNat_natCast] at t2
  have s2 := psame_ok (u.take j) (u.take j) (by rw [List.length_take]; omega) (by rw [List.length_take]; omega)
  rw [decide_eq_true rfl] at s2
  have e2 : (AV.vs ((j : Int).toNat - (0 : Int).toNat) (takeL (prC u) (mulS (0 : Int).toNat (sizeT Try.prog 49)) (mulS ((j : Int).toNat - (0 : Int).toNat) (sizeT Try.prog 49)))) = .vs (u.take j).length (prC (u.take j)) := by
    rw [prC_take, List.length_take, show (j : Int).toNat - (0 : Int).toNat = min j u.length by omega]
  have cu := punder_ok r k prs (by omega)
  rw [← hu] at cu
  refine asks_walk os k a b U r u (getL k r) (if 0 ≤ a then r[a.toNat]? else none) (rankL k r) j hM (u.take j) (by rw [bs_size]; omega) ha1 ha2 (by omega) (by omega) ?_ (over13_no h) awake14_ok m.own m.tree m.ref
    (get_ok U k _ ((Tr.get_toL srt).trans (by rw [mr]))) (pget_ok r k (by omega) _ rfl) ?_ (rank_ok U k (by have := m.cn; omega) _ ((Tr.rank_toL srt).trans (by rw [mr]))) (prank_ok r k (by omega) _ rfl) cu t1 s1 t2 ⟨by omega, hMb.1, hMb.2, by rw [prC_len, hsP]; omega⟩ (by rw [e2]; exact s2)
  · by_cases q : 0 ≤ a ∧ a < r.length
    · rw [if_pos q]
      refine ⟨a.toNat, by omega, by omega, ?_⟩
      rw [if_pos q.1, List.getElem?_eq_getElem]
    · rw [if_neg q]
      by_cases q1 : 0 ≤ a
      · rw [if_pos q1, List.getElem?_eq_none (by omega)]
      · rw [if_neg q1]
  · by_cases q : 0 ≤ a
    · rw [if_pos q]
      exact at_pos U a q (by have := m.cn; omega) ha2 _ ((Tr.at_toL U a q).trans (by rw [mr]))
    · rw [if_neg q]
      exact at_neg U a (by omega)
theorem cells_zz {cs : Array Value} (h : CellsOk [.int .i64, .int .i64] cs.toList) : ∃ a b : Int, -9223372036854775808 ≤ a ∧ a ≤ 9223372036854775807 ∧ cs = #[.int .i64 a, .int .i64 b] := by
  obtain ⟨v0, r0, e0, ⟨k0, rfl, hk0⟩, hr0⟩ := h.cons_
  obtain ⟨v1, r1, e1, ⟨k1, rfl, hk1⟩, hr1⟩ := hr0.cons_
  have e2 := hr1.empty_
  subst e2 e1
  have b0 := bounds_i64 hk0
  refine ⟨k0, k1, b0.1, by omega, ?_⟩
  apply Array.ext'
  rw [e0]
theorem treeAsks_walk (rows : List (List Value)) (k : Nat) (F : Nat → Nat → Prop) (v : Value) (s : List UInt8) (b : Array Value) (w : World) (hq : rows.length = k) (hz : k ≤ 9223372036854775807)
    (hok : ∀ r ∈ rows, CellsOk [.int .u8, .str, .str] r) (hlo : ∀ g j, F g j → g < w.heap.size) (hrep : ∀ F' : Nat → Nat → Prop, (∀ g j, F g j → F' g j) → Rep w p0 c0 F' noD (.vs k (rows.flatten.map .ex)) v) (hs : s.length ≤ 9223372036854775807) (hb : CellsOk [.int .i64, .int .i64] b.toList) :
    Calls Try.prog 4 #[v, .string (bs s), .agg b] w fun e w' => e = .returned (.bool true) ∧ Below w.heap.size w w' := by
  obtain ⟨os, e1, e2⟩ := rows_O hok
  obtain ⟨x, y, h1, h2, rfl⟩ := cells_zz hb
  have hr := hrep F fun _ _ h => h
  rw [e2, ← hq, ← e1] at hr
  refine calls_at (asks_ok os (by omega) s hs x y h1 h2) w F hlo _ rfl fun j hj => ?_
  match j, hj with
  | 0, _ => exact hr
  | 1, _ => exact .ex _ _
  | 2, _ => exact .ex _ _
end Go.Proofs.Ytdicpbecdhaphaa.Av
