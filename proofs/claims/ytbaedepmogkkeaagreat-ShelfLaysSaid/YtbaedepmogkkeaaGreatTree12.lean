/- tree: what Under hands back, ranged over: the contract of its function literal. No conditions but that sizes stay far below what memory holds. -/
import Derived.Test.YtbaedepmogkkeaaGreatTree6
import Derived.Test.YtbaedepmogkkeaaGreatIter
namespace Go.Proofs.YtbaedepmogkkeaaGreat.Av
open Go Go.RowKit Tre
set_option linter.unusedVariables false
set_option linter.unusedSimpArgs false
set_option maxRecDepth 100000
set_option maxHeartbeats 2000000

abbrev encP (x : Pr) : List Value := [.string (bs x.1), .string (bs x.2)]
/-- what is known between two steps -/
theorem u_rel {t : Tr} {p : Key} {Y : Value} {w W : World} {F : Nat → Nat → Prop} {gh : Array Value} {a : Act} {sl : Sl} (hsz : a.tmps.size = 35) (hkeep : ∀ t, t < 3 → a.tmps.getD t undef = gh.getD t undef) (hd : a.defers = [])
    (hF : ∀ g j, F g j → W.cell? ⟨g, j, none⟩ = w.cell? ⟨g, j, none⟩ ∧ (w.cell? ⟨g, j, none⟩).isSome = true) (h0 : gh.getD 0 undef = Y) (h1 : Rep w p0 c0 F noD (.vp [ndA t] 0) (gh.getD 1 undef)) (h2 : Rep w p0 c0 F noD (.vp [T p] 0) (gh.getD 2 undef))
    (hsl : ∀ t v, look sl t = some v → ∃ u, v = .ex u ∧ a.tmps.getD t undef = u) : Rel Tryz.prog ⟨W, fun _ => False, gh, []⟩ F ⟨35, 3⟩ (ltD 0) p0 c0 F ((0, .ex Y) :: (1, .vp [ndA t] 0) :: (2, .vp [T p] 0) :: sl) [] a W := by
  have ext : Ext w noD p0 c0 F W (ltD 0) p0 c0 F := ⟨fun _ h => h.elim, fun _ _ h => h, fun g j hj => (hF g j hj).1⟩
  refine ⟨fun t v ht => ?_, hsz, hkeep, hd, fun r b h => by simp [look] at h, fun r r' b b' g h => by simp [look] at h, fun r b g h => by simp [look] at h, fun g j hj => ⟨?_, .inl hj⟩, fun r b g j h => by simp [look] at h, fun _ _ h => h, fun g j hj => ?_, Held.refl _, fun _ _ _ => rfl, fun r b K g h => by simp [look] at h⟩
  · rw [look_cons] at ht
    by_cases e0 : 0 = t
    · subst e0
      rw [if_pos rfl] at ht; injection ht with ht; subst ht
      rw [hkeep 0 (by omega), h0]; exact .ex _ _
    rw [if_neg e0, look_cons] at ht
    by_cases e1 : 1 = t
    · subst e1
      rw [if_pos rfl] at ht; injection ht with ht; subst ht
      rw [hkeep 1 (by omega)]; exact h1.mono ext
    rw [if_neg e1, look_cons] at ht
    by_cases e2 : 2 = t
    · subst e2
      rw [if_pos rfl] at ht; injection ht with ht; subst ht
      rw [hkeep 2 (by omega)]; exact h2.mono ext
    rw [if_neg e2] at ht
    obtain ⟨u, rfl, hu⟩ := hsl t v ht
    rw [hu]; exact .ex _ _
  all_goals
    obtain ⟨cs, t, fr, hh⟩ := cells_of_some (w := W) (g := g) (j := j) (by rw [(hF g j hj).1]; exact (hF g j hj).2)
    exact (Array.getElem?_eq_some_iff.1 hh).1
/-- the operations of the loop's test -/
noncomputable abbrev ops3 : List Oper := match Tryz.f170.body with
  | some (.seq _ (.block _ (.loop (.seq (.block _ (.seq _ (.seq (.region _ ops _) _))) _)))) => ops.toList
  | _ => []
theorem look4 {a : Act} {v4 : Value} (h4 : a.tmps.getD 4 undef = v4) : ∀ t v, look [(4, AV.ex v4)] t = some v → ∃ u, v = .ex u ∧ a.tmps.getD t undef = u := by
  intro t v h
  rw [look_cons] at h
  by_cases e : 4 = t
  · subst e; rw [if_pos rfl] at h; injection h with h; subst h; exact ⟨_, rfl, h4⟩
  · rw [if_neg e] at h; simp [look] at h
theorem lookc {a : Act} {q : Nat} {vq : Value} {sl : Sl} (hq : a.tmps.getD q undef = vq) (hs : ∀ t v, look sl t = some v → ∃ u, v = .ex u ∧ a.tmps.getD t undef = u) : ∀ t v, look ((q, AV.ex vq) :: sl) t = some v → ∃ u, v = .ex u ∧ a.tmps.getD t undef = u := by
  intro t v h
  rw [look_cons] at h
  by_cases e : q = t
  · subst e; rw [if_pos rfl] at h; injection h with h; subst h; exact ⟨_, rfl, hq⟩
  · rw [if_neg e] at h; exact hs t v h
theorem under1_ok (t : Tr) (p : Key) (L : List Pr) (r0 : Int) (hr0 : 0 ≤ r0) (hr1 : r0 + L.length ≤ 1000000000) (cr : SP 171 [trA t, T p] (Z r0))
    (ca : ∀ k (hk : k < L.length), SP 172 [trA t, Z (r0 + k)] (.tup [T L[k].1, T L[k].2, B true])) (cb : ∀ k (hk : k < L.length), SP 173 [T L[k].1, T p] (B true))
    (ce : SP 172 [trA t, Z (r0 + L.length)] (.tup [T [], T [], B false]) ∨ ∃ x : Pr, SP 172 [trA t, Z (r0 + L.length)] (.tup [T x.1, T x.2, B true]) ∧ SP 173 [T x.1, T p] (B false)) :
    SeqSound Tryz.prog 170 [.vp [ndA t] 0, .vp [T p] 0] encP L := by
  refine ⟨enters Tryz.func170 rfl rfl, fun w FF lb n hlb hrep hFF => ?_⟩
  intro l J Jx W hW hJ hJx hY hJ0
  obtain ⟨F, hFd⟩ : ∃ F : Nat → Nat → Prop, F = fun g j => FF g j ∧ (False ∨ (w.cell? ⟨g, j, none⟩).isSome = true) := ⟨_, rfl⟩
  have hF1 : ∀ g j, F g j → FF g j ∧ (w.cell? ⟨g, j, none⟩).isSome = true := fun g j hj => by rw [hFd] at hj; exact ⟨hj.1, hj.2.resolve_left id⟩
  have hrep : ∀ j (h : j < 2), Rep w p0 c0 F noD ([.vp [ndA t] 0, .vp [T p] 0] : List AV)[j] (lb.getD j undef) := fun j h => by rw [hFd]; exact (hrep j h).shrink (G := fun _ _ => False)
  have hFW : ∀ g j, F g j → W.cell? ⟨g, j, none⟩ = w.cell? ⟨g, j, none⟩ := fun g j hj => World.cell?_of_block (w := w) (a := ⟨g, j, none⟩) (hW.block g (hFF g j (hF1 g j hj).1))
  clear hFd
  obtain ⟨Y, hYd⟩ : ∃ Y : Value, Y = .func (.yield l) #[] #[] := ⟨_, rfl⟩
  rw [← hYd]
  refine callsIn_of_wp Tryz.func170 rfl trivial ?_ rfl
  obtain ⟨gh, hgd⟩ : ∃ gh : Array Value, gh = #[Y] ++ lb ++ Array.replicate (35 - (#[Y] ++ lb).size) undef := ⟨_, rfl⟩
  have hsz : gh.size = 35 := by rw [hgd]; simp [hlb]
  have hg0 : gh.getD 0 undef = Y := by
    rw [hgd]; simp only [Array.getD_eq_getD_getElem?]
    rw [Array.getElem?_append_left (by simp; omega), Array.getElem?_append_left (by simp)]
    simp
  have hg1 : gh.getD 1 undef = lb.getD 0 undef := by
    rw [hgd]; simp only [Array.getD_eq_getD_getElem?]
    rw [Array.getElem?_append_left (by simp [hlb]), Array.getElem?_append_right (by simp)]
    simp
  have hg2 : gh.getD 2 undef = lb.getD 1 undef := by
    rw [hgd]; simp only [Array.getD_eq_getD_getElem?]
    rw [Array.getElem?_append_left (by simp [hlb]), Array.getElem?_append_right (by simp)]
    simp
  have hx1 : Rep w p0 c0 F noD (.vp [ndA t] 0) (gh.getD 1 undef) := by rw [hg1]; exact hrep 0 (by omega)
  have hx2 : Rep w p0 c0 F noD (.vp [T p] 0) (gh.getD 2 undef) := by rw [hg2]; exact hrep 1 (by omega)
  show Code.wpIn _ _ _ _ _ { tmps := #[Y] ++ lb ++ Array.replicate (35 - (#[Y] ++ lb).size) undef, defers := [] } _
  rw [← hgd]
  clear hgd hg1 hg2 hrep
  -- the index, ahead of the loop
  have hst : Rel Tryz.prog ⟨W, fun _ => False, gh, []⟩ F ⟨35, 3⟩ (ltD 0) p0 c0 F [(0, .ex Y), (1, .vp [ndA t] 0), (2, .vp [T p] 0)] [] { tmps := gh, defers := [] } W :=
    u_rel hsz (fun _ _ => rfl) rfl (fun g j hj => ⟨hFW g j hj, (hF1 g j hj).2⟩) hg0 hx1 hx2 (fun t v h => by simp [look] at h)
  refine wpIn_seq (seg mixed rfl (K := fun e sl h nx => e = .norm ∧ slotOf sl 4 = Z r0) ?_ hst ?_)
  · show avc Tryz.prog SP _ _ _ _ _ _
    dsimp only [avc, aops, startS, Array.toList]
    exact Av.W
  rintro e sl1 h1 nx1 p1 c1 F1 a1 w1 ⟨rfl, h4⟩ hb1 hr1
  show Code.wpIn _ _ _ (Code.block 0 (Code.loop (Code.seq (Code.block 1 (Code.seq _ (Code.seq _ (Code.cond _ Code.ret Code.skip)))) _))) _ _ _
  have hc1 : ∀ g j, F g j → w1.cell? ⟨g, j, none⟩ = w.cell? ⟨g, j, none⟩ := fun g j hj => (hr1.cell g j hj).trans (hFW g j hj)
  have hJ1 : J [] w1 := hJ [] W w1 none hJ0 (below_grown hb1) (fun r e => by cases e)
  have hWs : W.heap.size ≤ w1.heap.size := hb1.size
  refine wpIn_block (wpIn_loop_ghost (fun q a w' => ∃ (k : Nat) (pre : List {x // x ∈ L}), k ≤ L.length ∧ q = L.length - k ∧ pre.map (·.1) = L.take k ∧ J pre w' ∧ a.tmps.size = 35 ∧ a.defers = [] ∧ (∀ t, t < 3 → a.tmps.getD t undef = gh.getD t undef) ∧ a.tmps.getD 4 undef = .int .i64 (r0 + k) ∧ (∀ g j, F g j → w'.cell? ⟨g, j, none⟩ = w.cell? ⟨g, j, none⟩))
    L.length ⟨0, [], Nat.zero_le _, rfl, rfl, hJ1, hr1.size, hr1.defers, hr1.keep, (slot_ex hr1 h4).trans (by rw [Int.natCast_zero, Int.add_zero]), hc1⟩ ?_)
  clear hst hJ1 hc1 hr1 h4 hb1
  rintro q a w1 ⟨k, pre, hk, rfl, hpre, hJp, hs1, hd1, hk1, hi1, hc1⟩
  have hr := u_rel (t := t) (p := p) (Y := Y) (sl := [(4, Z (r0 + k))]) hs1 hk1 hd1 (fun g j hj => ⟨hc1 g j hj, (hF1 g j hj).2⟩) hg0 hx1 hx2 (look4 hi1)
  have hpl : pre.length = k := by have := congrArg List.length hpre; simpa [Nat.min_eq_left hk] using this
  refine wpIn_seq (wpIn_block (wpIn_seq ?_))
  by_cases hkl : k < L.length
  · -- one more
    have c1 := ca k hkl
    have c2 := cb k hkl
    obtain ⟨i, hi⟩ : ∃ i : Int, i = r0 + k := ⟨_, rfl⟩
    rw [← hi] at c1 hr hi1
    obtain ⟨key, hkey⟩ : ∃ s, s = L[k].1 := ⟨_, rfl⟩
    obtain ⟨val, hval⟩ : ∃ s, s = L[k].2 := ⟨_, rfl⟩
    rw [← hkey] at c1 c2
    rw [← hval] at c1
    refine seg mixed rfl (K := fun e sl h nx => e = .norm ∧ slotOf sl 4 = Z i ∧ slotOf sl 5 = T key ∧ slotOf sl 6 = T val ∧ slotOf sl 7 = B true) ?_ hr ?_
    · show avc Tryz.prog SP _ _ _ _ _ _
      dsimp only [avc, aops, Array.toList]
      exact Av.W
    rintro e sl2 h2 nx2 p2 cc2 F2 a2 w2 ⟨rfl, q4, q5, q6, q7⟩ hb2 hr2
    have hJ2 : J pre w2 := hJ pre w1 w2 none hJp (below_grown hb2) (fun r e => by cases e)
    have hr3 := u_rel (t := t) (p := p) (Y := Y) (sl := [(7, B true), (6, T val), (5, T key), (4, Z i)]) hr2.size hr2.keep hr2.defers (W := w2) (fun g j hj => ⟨(hr2.cell g j hj).trans (hc1 g j hj), (hF1 g j hj).2⟩) hg0 hx1 hx2 (lookc (slot_ex hr2 q7) (lookc (slot_ex hr2 q6) (lookc (slot_ex hr2 q5) (look4 (slot_ex hr2 q4)))))
    have hc2 : ∀ g j, F g j → w2.cell? ⟨g, j, none⟩ = w.cell? ⟨g, j, none⟩ := fun g j hj => (hr2.cell g j hj).trans (hc1 g j hj)
    refine wpIn_seq (wpIn_region ?_)
    show wpOpsIn _ _ _ _ _ (List.range' 0 12 ++ [12, 13, 14]) _ _
    refine segOps (l := ops3.take 12) (i := 0) (K := fun sl h nx => slotOf sl 4 = Z i ∧ slotOf sl 28 = B false ∧ slotOf sl 29 = .ex Y ∧ slotOf sl 30 = T key ∧ slotOf sl 31 = T val) ?_ ?_ hr3 ?_
    · intro j o h
      rw [List.getElem?_take] at h
      split at h
      · rw [Nat.zero_add]; exact (Array.getElem?_toList).symm.trans h
      · cases h
    · show aops Tryz.prog SP _ _ _ _ _ _ _
      exact Av.W
    rintro sl3 h3 nx3 p3 cc3 F3 a3 w3 ⟨q4, q28, q29, q30, q31⟩ hb3 hr4
    have hJ3 : J pre w3 := hJ pre w2 w3 none hJ2 (below_grown hb3) (fun r e => by cases e)
    have hc3 : ∀ g j, F g j → w3.cell? ⟨g, j, none⟩ = w.cell? ⟨g, j, none⟩ := fun g j hj => (hr4.cell g j hj).trans (hc2 g j hj)
    have ht28 := slot_ex hr4 q28
    have he29 := slot_ex hr4 q29
    have ht30 := slot_ex hr4 q30
    have ht31 := slot_ex hr4 q31
    refine opsIn_want rfl ?_ (yield_in rfl rfl (fun _ => trivial) rfl (he29.trans hYd) (R := fun e W' =>
          (e = .returned (.bool true) ∧ J (pre ++ [⟨L[k], List.getElem_mem hkl⟩]) W' ∧ KpF FF w3 W') ∨ (e = .returned (.bool false) ∧ Jx (pre ++ [⟨L[k], List.getElem_mem hkl⟩]) W')) ?_ ?_)
    · have e28 : a3.tmps[28]?.getD undef = .bool false := by rw [← Array.getD_eq_getD_getElem?]; exact ht28
      have e28' : a3.tmps[28]? = some (.bool false) := by
        cases h : a3.tmps[28]? with
        | none => rw [h] at e28; cases e28
        | some x => rw [h] at e28; exact congrArg some e28
      simp [Region.wanted, yielded, e28']
    · have e : (#[Operand.tmp 30, .tmp 31].map a3.eval) = (encP L[k]).toArray := by
        have e1 : a3.eval (.tmp 30) = .string (bs key) := ht30
        have e2 : a3.eval (.tmp 31) = .string (bs val) := ht31
        rw [hkey] at e1
        rw [hval] at e2
        simp only [List.map_toArray, List.map_cons, List.map_nil]
        rw [e1, e2]
      rw [e]
      exact hY pre ⟨L[k], List.getElem_mem hkl⟩ w3 hJ3 (by omega)
    have epre : (pre ++ [(⟨L[k], List.getElem_mem hkl⟩ : {x // x ∈ L})]).map (·.1) = L.take (k + 1) := by
      rw [List.map_append, hpre]; simp
    rintro e W' (⟨rfl, hJ4, hKp⟩ | ⟨rfl, hJx4⟩)
    · refine ⟨_, rfl, ?_⟩
      have hr5 := hr4.put (v := B true) (x := .bool true) (d := 32) (.ex _ _) (by decide) (by decide)
      have hc4 : ∀ g j, F g j → W'.cell? ⟨g, j, none⟩ = w.cell? ⟨g, j, none⟩ := fun g j hj => (hKp g j (hF1 g j hj).1).trans (hc3 g j hj)
      have hr6 := u_rel (t := t) (p := p) (Y := Y) (W := W') (sl := [(32, B true), (28, B false), (4, Z i)]) hr5.size hr5.keep hr5.defers (fun g j hj => ⟨hc4 g j hj, (hF1 g j hj).2⟩) hg0 hx1 hx2
        (lookc (slot_ex hr5 rfl) (lookc (slot_ex hr5 q28) (look4 (slot_ex hr5 q4))))
      show wpOpsIn _ _ _ _ _ (List.range' 13 2 ++ []) _ _
      refine segOps (l := ops3.drop 13) (i := 13) (K := fun sl h nx => slotOf sl 34 = B false ∧ slotOf sl 4 = Z i) ?_ ?_ hr6 ?_
      · intro j o h
        rw [List.getElem?_drop] at h
        exact (Array.getElem?_toList).symm.trans h
      · show aops Tryz.prog SP _ _ _ _ _ _ _
        exact Av.W
      rintro sl7 h7 nx7 p7 cc7 F7 a7 w7 ⟨q34, q4⟩ hb7 hr7
      have hJ7 : J (pre ++ [⟨L[k], List.getElem_mem hkl⟩]) w7 := hJ _ W' w7 none hJ4 (below_grown hb7) (fun r e => by cases e)
      have hc7 : ∀ g j, F g j → w7.cell? ⟨g, j, none⟩ = w.cell? ⟨g, j, none⟩ := fun g j hj => (hr7.cell g j hj).trans (hc4 g j hj)
      refine wpIn_cond_false (slot_ex hr7 q34) (wpIn_skip ?_)
      have hr8 := u_rel (t := t) (p := p) (Y := Y) (W := w7) (sl := [(4, Z i)]) hr7.size hr7.keep hr7.defers (fun g j hj => ⟨hc7 g j hj, (hF1 g j hj).2⟩) hg0 hx1 hx2 (look4 (slot_ex hr7 q4))
      refine seg mixed rfl (K := fun e sl h nx => e = .norm ∧ slotOf sl 4 = Z (i + 1)) ?_ hr8 ?_
      · show avc Tryz.prog SP _ _ _ _ _ _
        dsimp only [avc, aops, Array.toList]
        exact Av.W
      rintro e sl9 h9 nx9 p9 cc9 F9 a9 w9 ⟨rfl, q4⟩ hb9 hr9
      refine ⟨L.length - (k + 1), by omega, k + 1, _, by omega, rfl, epre, hJ _ w7 w9 none hJ7 (below_grown hb9) (fun r e => by cases e), hr9.size, hr9.defers, hr9.keep, (slot_ex hr9 q4).trans (by rw [hi, Int.natCast_add, Int.add_assoc]; rfl), fun g j hj => (hr9.cell g j hj).trans (hc7 g j hj)⟩
    · refine ⟨_, rfl, ?_⟩
      have hr5 := hr4.put (v := B false) (x := .bool false) (d := 32) (.ex _ _) (by decide) (by decide)
      -- behind the last round
      have hr6 : Rel Tryz.prog ⟨W', fun _ => False, gh, []⟩ (fun _ _ => False) ⟨35, 3⟩ (ltD 0) p0 c0 (fun _ _ => False) [(32, B false), (28, B false)] [] (a3.put (some 32) (.bool false)) W' := by
        refine ⟨fun t v ht => ?_, hr5.size, hr5.keep, hr5.defers, fun r b h => by simp [look] at h, fun r r' b b' g h => by simp [look] at h, fun r b g h => by simp [look] at h, fun g j hj => hj.elim, fun r b g j h => by simp [look] at h, fun _ _ h => h, fun g j hj => hj.elim, Held.refl _, fun _ _ _ => rfl, fun r b K g h => by simp [look] at h⟩
        rw [look_cons] at ht
        by_cases e : 32 = t
        · subst e; rw [if_pos rfl] at ht; injection ht with ht; subst ht; rw [slot_ex (t := 32) (v := .bool false) hr5 rfl]; exact .ex _ _
        rw [if_neg e, look_cons] at ht
        by_cases e : 28 = t
        · subst e; rw [if_pos rfl] at ht; injection ht with ht; subst ht; rw [slot_ex (t := 28) (v := .bool false) hr5 q28]; exact .ex _ _
        · rw [if_neg e] at ht; simp [look] at ht
      show wpOpsIn _ _ _ _ _ (List.range' 13 2 ++ []) _ _
      refine segOps (l := ops3.drop 13) (i := 13) (K := fun sl h nx => slotOf sl 34 = B true) ?_ ?_ hr6 ?_
      · intro j o h
        rw [List.getElem?_drop] at h
        exact (Array.getElem?_toList).symm.trans h
      · show aops Tryz.prog SP _ _ _ _ _ _ _
        exact Av.W
      rintro sl7 h7 nx7 p7 cc7 F7 a7 w7 q34 hb7 hr7
      refine wpIn_cond_true (slot_ex hr7 q34) (wpIn_ret ?_)
      refine ⟨hr7.defers, _, results_ok (us := []) rfl (fun j x h => by simp [Tryz.f170] at h), ⟨_, rfl⟩, .inr ⟨_, ?_, hJx _ W' w7 none hJx4 (below_grown hb7) (fun r e => by cases e)⟩⟩
      show (pre ++ [(⟨L[k], List.getElem_mem hkl⟩ : {x // x ∈ L})]).map (·.1) <+: L
      rw [epre]; exact List.take_prefix _ _
  · -- no more
    have hkl : k = L.length := by omega
    have hall : pre.map (·.1) = L := by rw [hpre, hkl, List.take_length]
    rw [← hkl] at ce
    obtain ⟨i, hi⟩ : ∃ i : Int, i = r0 + k := ⟨_, rfl⟩
    rw [← hi] at ce hr hi1
    have fin : ∀ {a : Act} {w2 : World}, Below w1.heap.size w1 w2 → a.defers = [] → bodyPost Tryz.prog Tryz.f170 (fun e W' => (∃ v, e = .returned v) ∧ ((∃ ys : List {x // x ∈ L}, ys.map (·.1) = L ∧ J ys W') ∨ ∃ pre : List {x // x ∈ L}, pre.map (·.1) <+: L ∧ Jx pre W')) .ret a w2 := by
      intro a w2 hb hd
      exact ⟨hd, _, results_ok (us := []) rfl (fun j x h => by simp [Tryz.f170] at h), ⟨_, rfl⟩, .inl ⟨pre, hall, hJ _ w1 w2 none hJp (below_grown hb) (fun r e => by cases e)⟩⟩
    rcases ce with c1 | ⟨x, c1, c2⟩
    · refine seg mixed rfl (K := fun e sl h nx => e = .norm ∧ slotOf sl 7 = B false) ?_ hr ?_
      · show avc Tryz.prog SP _ _ _ _ _ _
        dsimp only [avc, aops, Array.toList]
        exact Av.W
      rintro e sl2 h2 nx2 p2 cc2 F2 a2 w2 ⟨rfl, q7⟩ hb2 hr2
      have hr3 := u_rel (t := t) (p := p) (Y := Y) (sl := [(7, B false)]) hr2.size hr2.keep hr2.defers (W := w2) (fun g j hj => ⟨(hr2.cell g j hj).trans (hc1 g j hj), (hF1 g j hj).2⟩) hg0 hx1 hx2 (lookc (slot_ex hr2 q7) fun t v h => by simp [look] at h)
      refine wpIn_seq (seg mixed rfl (K := fun e sl h nx => e = .norm ∧ slotOf sl 34 = B true) ?_ hr3 ?_)
      · show avc Tryz.prog SP _ _ _ _ _ _
        dsimp only [avc, aops, Array.toList]
        exact Av.W
      rintro e sl3 h3 nx3 p3 cc3 F3 a3 w3 ⟨rfl, q34⟩ hb3 hr4
      exact wpIn_cond_true (slot_ex hr4 q34) (wpIn_ret (fin (hb2.trans (hb3.mono hb2.size)) hr4.defers))
    · obtain ⟨key, hkey⟩ : ∃ s, s = x.1 := ⟨_, rfl⟩
      obtain ⟨val, hval⟩ : ∃ s, s = x.2 := ⟨_, rfl⟩
      rw [← hkey] at c1 c2
      rw [← hval] at c1
      refine seg mixed rfl (K := fun e sl h nx => e = .norm ∧ slotOf sl 5 = T key ∧ slotOf sl 6 = T val ∧ slotOf sl 7 = B true) ?_ hr ?_
      · show avc Tryz.prog SP _ _ _ _ _ _
        dsimp only [avc, aops, Array.toList]
        exact Av.W
      rintro e sl2 h2 nx2 p2 cc2 F2 a2 w2 ⟨rfl, q5, q6, q7⟩ hb2 hr2
      have hr3 := u_rel (t := t) (p := p) (Y := Y) (sl := [(7, B true), (6, T val), (5, T key)]) hr2.size hr2.keep hr2.defers (W := w2) (fun g j hj => ⟨(hr2.cell g j hj).trans (hc1 g j hj), (hF1 g j hj).2⟩) hg0 hx1 hx2 (lookc (slot_ex hr2 q7) (lookc (slot_ex hr2 q6) (lookc (slot_ex hr2 q5) fun t v h => by simp [look] at h)))
      refine wpIn_seq (seg mixed rfl (K := fun e sl h nx => e = .norm ∧ slotOf sl 34 = B true) ?_ hr3 ?_)
      · show avc Tryz.prog SP _ _ _ _ _ _
        dsimp only [avc, aops, Array.toList]
        exact Av.W
      rintro e sl3 h3 nx3 p3 cc3 F3 a3 w3 ⟨rfl, q34⟩ hb3 hr4
      exact wpIn_cond_true (slot_ex hr4 q34) (wpIn_ret (fin (hb2.trans (hb3.mono hb2.size)) hr4.defers))
end Go.Proofs.YtbaedepmogkkeaaGreat.Av
