/- tree: the law TreeStays. No conditions. -/
import Derived.Test.YtdicpbecdhaphaaTree21
namespace Go.Proofs.Ytdicpbecdhaphaa.Av
open Go Go.RowKit Go.ChangeShapes Go.WideShapes Tre
set_option linter.unusedVariables false
set_option linter.unusedSimpArgs false
set_option maxRecDepth 100000
set_option maxHeartbeats 2000000

theorem stays_over1 (os ks : List OpP) (c : SP 11 [.vs os.length (opC os)] (Z 1)) (aw : SP 12 [] (B true)) : SP 6 [.vs os.length (opC os), .vs ks.length (opC ks)] (B true) := by
  refine S_ Try.func6 (by kernel_rfl) rfl (Nat.le_of_ble_eq_true rfl) ?_
  show avc Try.prog SP _ _ _ _ _ _
  dsimp only [avc, startS, Array.toList, Try.f6]
  repeat' ((try conv => whnf) <;> (first | (refine Hold.mk ?_) | (refine And.intro (fun _ => ?_) (fun h => Bool.noConfusion h)) | (refine And.intro (fun h => Bool.noConfusion h) (fun _ => ?_)) | (refine And.intro (Nat.le_of_ble_eq_true rfl) ?_) | (refine And.intro (fun _ => ?_) (fun h => Bool.noConfusion ((beq_self_eq_true _).symm.trans h))) | (refine And.intro (fun h => Bool.noConfusion ((bne_self_eq_false _).symm.trans h)) (fun _ => ?_)) | (refine And.intro (fun h => Bool.noConfusion ((beq_self_eq_true _).symm.trans h)) (fun _ => ?_)) | (refine And.intro (fun _ => ?_) (fun h => Bool.noConfusion ((bne_self_eq_false _).symm.trans h))) | (refine ⟨_, c, ?_⟩) | (refine ⟨_, aw, ?_⟩) | (refine ⟨[], [0, 1, 0, 7, 15, 31], Eq.refl true, ?_⟩) | (refine ⟨[], [0, 0, 2, 7, 0, 31], Eq.refl true, ?_⟩) | (exact True.intro) | (refine And.intro (show eqT _ _ = true by kernel_rfl) ?_) | (refine And.intro rfl ?_) | (refine And.intro (And.intro (Nat.le_of_ble_eq_true rfl) rfl) ?_) | (refine And.intro (And.intro rfl rfl) ?_) | (refine And.intro (And.intro rfl (And.intro rfl rfl)) ?_) | (exact And.intro rfl (And.intro rfl rfl)) | (exact And.intro rfl rfl) | (refine br_lt ?_ ?_ <;> intro hBr <;> (first | (exfalso; omega) | (exfalso; contradiction) | (exfalso; exact hBr rfl) | skip)) | (refine br_lt_ ?_ ?_ <;> intro hBr <;> (first | (exfalso; omega) | (exfalso; contradiction) | (exfalso; exact hBr rfl) | skip)) | (refine br_le ?_ ?_ <;> intro hBr <;> (first | (exfalso; omega) | (exfalso; contradiction) | (exfalso; exact hBr rfl) | skip)) | (refine br_le_ ?_ ?_ <;> intro hBr <;> (first | (exfalso; omega) | (exfalso; contradiction) | (exfalso; exact hBr rfl) | skip)) | (refine br_eq ?_ ?_ <;> intro hBr <;> (first | (exfalso; omega) | (exfalso; contradiction) | (exfalso; exact hBr rfl) | skip)) | (refine br_eq_ ?_ ?_ <;> intro hBr <;> (first | (exfalso; omega) | (exfalso; contradiction) | (exfalso; exact hBr rfl) | skip)) | (refine br_seq ?_ ?_ <;> intro hBr <;> (first | (exfalso; omega) | (exfalso; contradiction) | (exfalso; exact hBr rfl) | skip)) | (refine br_seq_ ?_ ?_ <;> intro hBr <;> (first | (exfalso; omega) | (exfalso; contradiction) | (exfalso; exact hBr rfl) | skip)) | (refine br_not ?_) | (refine br_not_ ?_) | (refine br_and ?_) | (refine br_and_ ?_) | (refine And.intro (by omega) ?_) | (refine ⟨_, wrap_i64 (by omega), ?_⟩) | (refine ⟨_, wrap_u64 (by omega) (by omega), ?_⟩) | (refine ⟨_, wrap_u8 (by omega) (by omega), ?_⟩) | (refine ⟨_, wrap_u32 (by omega) (by omega), ?_⟩) | (refine ⟨_, wrap_u16 (by omega) (by omega), ?_⟩) | (refine ⟨_, rfl, ?_⟩) | (exact rfl)))
theorem stays_over2 (os ks : List OpP) (c : SP 11 [.vs os.length (opC os)] (Z 0)) (d : SP 11 [.vs ks.length (opC ks)] (Z 1)) (aw : SP 12 [] (B true)) : SP 6 [.vs os.length (opC os), .vs ks.length (opC ks)] (B true) := by
  refine S_ Try.func6 (by kernel_rfl) rfl (Nat.le_of_ble_eq_true rfl) ?_
  show avc Try.prog SP _ _ _ _ _ _
  dsimp only [avc, startS, Array.toList, Try.f6]
  repeat' ((try conv => whnf) <;> (first | (refine Hold.mk ?_) | (refine And.intro (fun _ => ?_) (fun h => Bool.noConfusion h)) | (refine And.intro (fun h => Bool.noConfusion h) (fun _ => ?_)) | (refine And.intro (Nat.le_of_ble_eq_true rfl) ?_) | (refine And.intro (fun _ => ?_) (fun h => Bool.noConfusion ((beq_self_eq_true _).symm.trans h))) | (refine And.intro (fun h => Bool.noConfusion ((bne_self_eq_false _).symm.trans h)) (fun _ => ?_)) | (refine And.intro (fun h => Bool.noConfusion ((beq_self_eq_true _).symm.trans h)) (fun _ => ?_)) | (refine And.intro (fun _ => ?_) (fun h => Bool.noConfusion ((bne_self_eq_false _).symm.trans h))) | (refine ⟨_, c, ?_⟩) | (refine ⟨_, d, ?_⟩) | (refine ⟨_, aw, ?_⟩) | (refine ⟨[], [0, 1, 0, 7, 15, 31], Eq.refl true, ?_⟩) | (refine ⟨[], [0, 0, 2, 7, 0, 31], Eq.refl true, ?_⟩) | (exact True.intro) | (refine And.intro (show eqT _ _ = true by kernel_rfl) ?_) | (refine And.intro rfl ?_) | (refine And.intro (And.intro (Nat.le_of_ble_eq_true rfl) rfl) ?_) | (refine And.intro (And.intro rfl rfl) ?_) | (refine And.intro (And.intro rfl (And.intro rfl rfl)) ?_) | (exact And.intro rfl (And.intro rfl rfl)) | (exact And.intro rfl rfl) | (refine br_lt ?_ ?_ <;> intro hBr <;> (first | (exfalso; omega) | (exfalso; contradiction) | (exfalso; exact hBr rfl) | skip)) | (refine br_lt_ ?_ ?_ <;> intro hBr <;> (first | (exfalso; omega) | (exfalso; contradiction) | (exfalso; exact hBr rfl) | skip)) | (refine br_le ?_ ?_ <;> intro hBr <;> (first | (exfalso; omega) | (exfalso; contradiction) | (exfalso; exact hBr rfl) | skip)) | (refine br_le_ ?_ ?_ <;> intro hBr <;> (first | (exfalso; omega) | (exfalso; contradiction) | (exfalso; exact hBr rfl) | skip)) | (refine br_eq ?_ ?_ <;> intro hBr <;> (first | (exfalso; omega) | (exfalso; contradiction) | (exfalso; exact hBr rfl) | skip)) | (refine br_eq_ ?_ ?_ <;> intro hBr <;> (first | (exfalso; omega) | (exfalso; contradiction) | (exfalso; exact hBr rfl) | skip)) | (refine br_seq ?_ ?_ <;> intro hBr <;> (first | (exfalso; omega) | (exfalso; contradiction) | (exfalso; exact hBr rfl) | skip)) | (refine br_seq_ ?_ ?_ <;> intro hBr <;> (first | (exfalso; omega) | (exfalso; contradiction) | (exfalso; exact hBr rfl) | skip)) | (refine br_not ?_) | (refine br_not_ ?_) | (refine br_and ?_) | (refine br_and_ ?_) | (refine And.intro (by omega) ?_) | (refine ⟨_, wrap_i64 (by omega), ?_⟩) | (refine ⟨_, wrap_u64 (by omega) (by omega), ?_⟩) | (refine ⟨_, wrap_u8 (by omega) (by omega), ?_⟩) | (refine ⟨_, wrap_u32 (by omega) (by omega), ?_⟩) | (refine ⟨_, wrap_u16 (by omega) (by omega), ?_⟩) | (refine ⟨_, rfl, ?_⟩) | (exact rfl)))
theorem stays_walk (os ks : List OpP) (X Y W : Tr) (a x y : List Pr) (s1 s2 : Bool)
    (o1 : SP 11 [.vs os.length (opC os)] (Z 0)) (o2 : SP 11 [.vs ks.length (opC ks)] (Z 0)) (aw : SP 12 [] (B true))
    (w1 : SP 20 [.vs os.length (opC os)] (.vs os.length (opC os))) (w2 : SP 20 [.vs ks.length (opC ks)] (.vs ks.length (opC ks)))
    (p1 : SP 19 [zT, .vs os.length (opC os)] (trA X)) (p2 : SP 19 [trA X, .vs ks.length (opC ks)] (trA Y)) (p3 : SP 19 [zT, .vs ks.length (opC ks)] (trA W))
    (t1 : SP 28 [trA X, T [], Z 1000] (.vs a.length (prC a))) (t2 : SP 28 [trA Y, T [], Z 1000] (.vs x.length (prC x))) (t3 : SP 28 [trA W, T [], Z 1000] (.vs y.length (prC y)))
    (q1 : SP 27 [.vs a.length (prC a), .vs a.length (prC a)] (B true)) (q2 : SP 27 [.vs a.length (prC a), .vs x.length (prC x)] (B s1)) (q3 : SP 27 [.vs x.length (prC x), .vs y.length (prC y)] (B s2))
    (l0 : SP 30 [zT] (Z 0)) (r1 : SP 18 [trA X, trA X] (B true)) (r2 : SP 18 [trA X, trA Y] (B s1)) (r3 : SP 18 [trA Y, trA W] (B s2)) :
    SP 6 [.vs os.length (opC os), .vs ks.length (opC ks)] (B true) := by
  have e1 : (s1 == s1) = true := by simp
  have e2 : (s2 == s2) = true := by simp
  refine S_ Try.func6 (by kernel_rfl) rfl (Nat.le_of_ble_eq_true rfl) ?_
  show avc Try.prog SP _ _ _ _ _ _
  dsimp only [avc, startS, Array.toList, Try.f6]
  repeat' ((try conv => whnf) <;> (first | (refine Hold.mk ?_) | (refine And.intro (fun _ => ?_) (fun h => Bool.noConfusion h)) | (refine And.intro (fun h => Bool.noConfusion h) (fun _ => ?_)) | (refine And.intro (Nat.le_of_ble_eq_true rfl) ?_) | (refine And.intro (fun _ => ?_) (fun h => Bool.noConfusion ((beq_self_eq_true _).symm.trans h))) | (refine And.intro (fun h => Bool.noConfusion ((bne_self_eq_false _).symm.trans h)) (fun _ => ?_)) | (refine And.intro (fun h => Bool.noConfusion ((beq_self_eq_true _).symm.trans h)) (fun _ => ?_)) | (refine And.intro (fun _ => ?_) (fun h => Bool.noConfusion ((bne_self_eq_false _).symm.trans h))) | (refine ⟨_, o1, ?_⟩) | (refine ⟨_, o2, ?_⟩) | (refine ⟨_, aw, ?_⟩) | (refine ⟨_, w1, ?_⟩) | (refine ⟨_, w2, ?_⟩) | (refine ⟨_, p1, ?_⟩) | (refine ⟨_, p2, ?_⟩) | (refine ⟨_, p3, ?_⟩) | (refine ⟨_, t1, ?_⟩) | (refine ⟨_, t2, ?_⟩) | (refine ⟨_, t3, ?_⟩) | (refine ⟨_, q1, ?_⟩) | (refine ⟨_, q2, ?_⟩) | (refine ⟨_, q3, ?_⟩) | (refine ⟨_, l0, ?_⟩) | (refine ⟨_, r1, ?_⟩) | (refine ⟨_, r2, ?_⟩) | (refine ⟨_, r3, ?_⟩) | (refine br_t e1 ?_) | (refine br_tr e1 ?_) | (refine br_t e2 ?_) | (refine br_tr e2 ?_) | (refine ⟨[], [0, 1, 0, 7, 15, 31], Eq.refl true, ?_⟩) | (refine ⟨[], [0, 0, 2, 7, 0, 31], Eq.refl true, ?_⟩) | (exact True.intro) | (refine And.intro (show eqT _ _ = true by kernel_rfl) ?_) | (refine And.intro rfl ?_) | (refine And.intro (And.intro (Nat.le_of_ble_eq_true rfl) rfl) ?_) | (refine And.intro (And.intro rfl rfl) ?_) | (refine And.intro (And.intro rfl (And.intro rfl rfl)) ?_) | (exact And.intro rfl (And.intro rfl rfl)) | (exact And.intro rfl rfl) | (refine br_lt ?_ ?_ <;> intro hBr <;> (first | (exfalso; omega) | (exfalso; contradiction) | (exfalso; exact hBr rfl) | skip)) | (refine br_lt_ ?_ ?_ <;> intro hBr <;> (first | (exfalso; omega) | (exfalso; contradiction) | (exfalso; exact hBr rfl) | skip)) | (refine br_le ?_ ?_ <;> intro hBr <;> (first | (exfalso; omega) | (exfalso; contradiction) | (exfalso; exact hBr rfl) | skip)) | (refine br_le_ ?_ ?_ <;> intro hBr <;> (first | (exfalso; omega) | (exfalso; contradiction) | (exfalso; exact hBr rfl) | skip)) | (refine br_eq ?_ ?_ <;> intro hBr <;> (first | (exfalso; omega) | (exfalso; contradiction) | (exfalso; exact hBr rfl) | skip)) | (refine br_eq_ ?_ ?_ <;> intro hBr <;> (first | (exfalso; omega) | (exfalso; contradiction) | (exfalso; exact hBr rfl) | skip)) | (refine br_seq ?_ ?_ <;> intro hBr <;> (first | (exfalso; omega) | (exfalso; contradiction) | (exfalso; exact hBr rfl) | skip)) | (refine br_seq_ ?_ ?_ <;> intro hBr <;> (first | (exfalso; omega) | (exfalso; contradiction) | (exfalso; exact hBr rfl) | skip)) | (refine br_not ?_) | (refine br_not_ ?_) | (refine br_and ?_) | (refine br_and_ ?_) | (refine And.intro (by omega) ?_) | (refine ⟨_, wrap_i64 (by omega), ?_⟩) | (refine ⟨_, wrap_u64 (by omega) (by omega), ?_⟩) | (refine ⟨_, wrap_u8 (by omega) (by omega), ?_⟩) | (refine ⟨_, wrap_u32 (by omega) (by omega), ?_⟩) | (refine ⟨_, wrap_u16 (by omega) (by omega), ?_⟩) | (refine ⟨_, rfl, ?_⟩) | (exact rfl)))
theorem Made.told {os : List OpP} {U : Tr} {r : List Pr} (m : Made os U r) : SP 28 [trA U, T [], Z 1000] (.vs r.length (prC r)) := by
  have ml := m.len
  have mr := m.list
  have key : ∀ x ∈ U.toL, x.1.length ≤ 1000000000 := fun x hx => by rw [mr] at hx; have := m.key x hx; omega
  have := told_ok U [] 1000 m.good.srt (by rw [mr]; omega) key (by simp)
  rwa [mr, underL_nil, List.take_of_length_le (by omega)] at this
theorem stays_ok (os ks : List OpP) (hl : os.length ≤ 9223372036854775807) (hl2 : ks.length ≤ 9223372036854775807) : SP 6 [.vs os.length (opC os), .vs ks.length (opC ks)] (B true) := by
  by_cases h : Over13 os
  · exact stays_over1 os ks (over13_yes hl h) awake14_ok
  by_cases h2 : Over13 ks
  · exact stays_over2 os ks (over13_no h) (over13_yes hl2 h2) awake14_ok
  have m := made_of h
  have n := made_of h2
  obtain ⟨hn, hk⟩ := over_in h2
  generalize Tr.apply os .nil = X at m
  generalize applyL os [] = a at m
  generalize Tr.apply ks .nil = W at n
  generalize applyL ks [] = y at n
  have hcn := m.cn
  have hwt := m.wt
  have hb : OpsOk X ks := ⟨by omega, fun o ho => by have := hk o ho; omega, by omega⟩
  have cy := tapply_ok m.good hb _ rfl
  obtain ⟨g, e⟩ := m.good.apply ks
  have z := Tre.applyL_len (a := 150) (b := 1000) ks a (fun o ho => hk o ho)
  generalize Tr.apply ks X = Y at cy g e
  rw [m.list] at e
  generalize applyL ks a = x at e z
  have ml := m.len
  have nl := n.len
  have mb := m.bytes
  have key : ∀ q ∈ x, q.1.length ≤ 1000000000 := fun q hq => by have := key_le hq; omega
  have t2 := told_ok Y [] 1000 g.srt (by rw [e]; omega) (by rw [e]; exact key) (by simp)
  rw [e, underL_nil, List.take_of_length_le (by omega)] at t2
  have key1 : ∀ q ∈ X.toL, q.1.length ≤ 1000000000 := fun q hq => by rw [m.list] at hq; have := m.key q hq; omega
  have q1 := psame_ok a a (by omega) (by omega)
  rw [decide_eq_true rfl] at q1
  have r1 := same_ok m.good m.good (by rw [m.list]; omega) key1
  rw [decide_eq_true rfl] at r1
  have r2 := same_ok m.good g (by rw [m.list]; omega) key1
  rw [m.list, e] at r2
  have r3 := same_ok g n.good (by rw [e]; omega) (by rw [e]; exact key)
  rw [e, n.list] at r3
  exact stays_walk os ks X Y W a x y _ _ (over13_no h) (over13_no h2) awake14_ok m.own n.own m.tree cy n.tree m.told t2 n.told q1 (psame_ok a x (by omega) (by omega)) (psame_ok x y (by omega) (by omega)) (zw (len_ok_ .nil)) r1 r2 r3
theorem treeStays_walk (rows : List (List Value)) (k : Nat) (F : Nat → Nat → Prop) (v : Value) (rows2 : List (List Value)) (k2 : Nat) (F2 : Nat → Nat → Prop) (v2 : Value) (w : World) (hq : rows.length = k) (hz : k ≤ 9223372036854775807)
    (hok : ∀ r ∈ rows, CellsOk [.int .u8, .str, .str] r) (hlo : ∀ g j, F g j → g < w.heap.size) (hrep : ∀ F' : Nat → Nat → Prop, (∀ g j, F g j → F' g j) → Rep w p0 c0 F' noD (.vs k (rows.flatten.map .ex)) v) (hq2 : rows2.length = k2) (hz2 : k2 ≤ 9223372036854775807)
    (hok2 : ∀ r ∈ rows2, CellsOk [.int .u8, .str, .str] r) (hlo2 : ∀ g j, F2 g j → g < w.heap.size) (hrep2 : ∀ F' : Nat → Nat → Prop, (∀ g j, F2 g j → F' g j) → Rep w p0 c0 F' noD (.vs k2 (rows2.flatten.map .ex)) v2) :
    Calls Try.prog 6 #[v, v2] w fun e w' => e = .returned (.bool true) ∧ Below w.heap.size w w' := by
  obtain ⟨os, e1, e2⟩ := rows_O hok
  obtain ⟨ks, d1, d2⟩ := rows_O hok2
  have hr := hrep (fun g j => F g j ∨ F2 g j) fun _ _ h => .inl h
  have hr2 := hrep2 (fun g j => F g j ∨ F2 g j) fun _ _ h => .inr h
  rw [e2, ← hq, ← e1] at hr
  rw [d2, ← hq2, ← d1] at hr2
  refine calls_at (stays_ok os ks (by omega) (by omega)) w (fun g j => F g j ∨ F2 g j) (fun g j h => h.elim (hlo g j) (hlo2 g j)) _ rfl fun j hj => ?_
  match j, hj with
  | 0, _ => exact hr
  | 1, _ => exact hr2
end Go.Proofs.Ytdicpbecdhaphaa.Av
