/- tree: nodes: how high, made, turned, levelled, walked. No conditions but that sizes stay far below what memory holds. -/
import Derived.Test.YtbaedepmogkkeaaGreatAuto
import Derived.Test.YtbaedepmogkkeaaGreatTree3
namespace Go.Proofs.YtbaedepmogkkeaaGreat.Av
set_option maxHeartbeats 1000000
open Go Go.RowKit Tre
set_option linter.unusedVariables false
set_option linter.unusedSimpArgs false
set_option maxRecDepth 100000

/-- less is asked of the arguments -/
theorem Sound.weak {P : Program} {f : FuncId} {xs xs' : List AV} {r : AV} (h : Sound P f xs r) (hl : xs'.length = xs.length) (hr : ∀ (w : World) (F : Nat → Nat → Prop) (j : Nat) (h1 : j < xs.length) (h2 : j < xs'.length) (x : Value), Rep w p0 c0 F noD xs'[j] x → Rep w p0 c0 F noD xs[j] x) : Sound P f xs' r :=
  ⟨h.1, fun w F us hs hx hF => h.2 w F us (hs.trans hl) (fun j hj => hr w F j hj (by omega) _ (hx j (by omega))) hF⟩
/-- is it a node? -/
def isN : Tr → Bool
  | .nil => false
  | .node .. => true
/-- a node, as it lies in memory -/
def ndC : Tr → List AV
  | .nil => []
  | .node l k v r => [T k, T v, .pt (isN l) (ndC l), .pt (isN r) (ndC r), Z (Tr.hh (.node l k v r)), Z (Tr.cn (.node l k v r)), Z (Tr.wt (.node l k v r))]
abbrev ndA (t : Tr) : AV := .pt (isN t) (ndC t)
abbrev trA (t : Tr) : AV := .agg [ndA t]
theorem tall_ok (t : Tr) : SP 206 [ndA t] (Z t.hh) := by
  cases t with
  | nil =>
    refine S_ Tryz.func206 (by kernel_rfl) rfl (Nat.le_of_ble_eq_true rfl) ?_
    show avc Tryz.prog SP _ _ _ _ _ _
    dsimp only [avc, startS, Array.toList, Tryz.f206]
    exact Av.W
  | node l k v r =>
    refine S_ Tryz.func206 (by kernel_rfl) rfl (Nat.le_of_ble_eq_true rfl) ?_
    show avc Tryz.prog SP _ _ _ _ _ _
    dsimp only [avc, startS, Array.toList, Tryz.f206]
    exact Av.W
theorem count_nd (t : Tr) : SP 97 [ndA t] (Z t.cn) := by
  cases t with
  | nil =>
    refine S_ Tryz.func97 (by kernel_rfl) rfl (Nat.le_of_ble_eq_true rfl) ?_
    show avc Tryz.prog SP _ _ _ _ _ _
    dsimp only [avc, startS, Array.toList, Tryz.f97]
    exact Av.W
  | node l k v r =>
    refine S_ Tryz.func97 (by kernel_rfl) rfl (Nat.le_of_ble_eq_true rfl) ?_
    show avc Tryz.prog SP _ _ _ _ _ _
    dsimp only [avc, startS, Array.toList, Tryz.f97]
    exact Av.W
theorem weight_nd (t : Tr) : SP 138 [ndA t] (Z t.wt) := by
  cases t with
  | nil =>
    refine S_ Tryz.func138 (by kernel_rfl) rfl (Nat.le_of_ble_eq_true rfl) ?_
    show avc Tryz.prog SP _ _ _ _ _ _
    dsimp only [avc, startS, Array.toList, Tryz.f138]
    exact Av.W
  | node l k v r =>
    refine S_ Tryz.func138 (by kernel_rfl) rfl (Nat.le_of_ble_eq_true rfl) ?_
    show avc Tryz.prog SP _ _ _ _ _ _
    dsimp only [avc, startS, Array.toList, Tryz.f138]
    exact Av.W
theorem made_ok {l r : Tr} {k v : Key} (hc : l.cn + r.cn ≤ 1000000000) (hw : l.wt + r.wt ≤ 1000000000000) (hk : k.length ≤ 1000000000) (hv : v.length ≤ 1000000000) : SP 174 [ndA l, T k, T v, ndA r] (ndA (.node l k v r)) := by
  have c1 := Tr.cn_pos l
  have c2 := Tr.cn_pos r
  have w1 := Tr.wt_pos l
  have w2 := Tr.wt_pos r
  have h1 := Tr.hh_pos l
  have h2 := Tr.hh_pos r
  have h3 := Tr.hh_le_cn l
  have h4 := Tr.hh_le_cn r
  have hk2 : (bs k).size ≤ 1000000000 := by rw [bs_size]; exact hk
  have hv2 : (bs v).size ≤ 1000000000 := by rw [bs_size]; exact hv
  have t1 := tall_ok l
  have t2 := tall_ok r
  have n1 := count_nd l
  have n2 := count_nd r
  have m1 := weight_nd l
  have m2 := weight_nd r
  refine S_ Tryz.func174 (by kernel_rfl) rfl (Nat.le_of_ble_eq_true rfl) ?_
  show avc Tryz.prog SP _ _ _ _ _ _
  dsimp only [avc, startS, Array.toList, Tryz.f174]
  exact Av.W
/-- sizes that made asks -/
structure Fits (l : Tr) (k v : Key) (r : Tr) : Prop where
  c : l.cn + r.cn ≤ 1000000000
  w : l.wt + r.wt + (k.length : Int) + (v.length : Int) ≤ 1000000000
theorem Fits.made {l r : Tr} {k v : Key} (h : Fits l k v r) : SP 174 [ndA l, T k, T v, ndA r] (ndA (.node l k v r)) := by
  have w1 := Tr.wt_pos l
  have w2 := Tr.wt_pos r
  have := h.w
  exact made_ok h.c (by omega) (by omega) (by omega)
theorem turnLeft_ok {l rl rr : Tr} {k v rk rv : Key} (h : Fits l k v (.node rl rk rv rr)) : SP 207 [ndA (.node l k v (.node rl rk rv rr))] (ndA (.node (.node l k v rl) rk rv rr)) := by
  have hc := h.c
  have hw := h.w
  have p1 := Tr.cn_pos rl
  have p2 := Tr.cn_pos rr
  have p3 := Tr.wt_pos rl
  have p4 := Tr.wt_pos rr
  simp only [Tr.cn, Tr.wt] at hc hw
  have m1 := (Fits.mk (l := l) (k := k) (v := v) (r := rl) (by omega) (by omega)).made
  have m2 := (Fits.mk (l := .node l k v rl) (k := rk) (v := rv) (r := rr) (by simp only [Tr.cn]; omega) (by simp only [Tr.wt]; omega)).made
  refine S_ Tryz.func207 (by kernel_rfl) rfl (Nat.le_of_ble_eq_true rfl) ?_
  show avc Tryz.prog SP _ _ _ _ _ _
  dsimp only [avc, startS, Array.toList, Tryz.f207]
  have hW0 : Av.Mk 31 [0,1,3,7,0,16,48,112,0,256,768,1792,0,4096,12288,28672,65535,0,131072,393216,917504,0,2097152,6291456,14680064,0,33554432,100663296,234881024,536870911,1073741823] := ⟨⟩
  exact Av.W
theorem turnRight_ok {ll lr r : Tr} {k v lk lv : Key} (h : Fits (.node ll lk lv lr) k v r) : SP 208 [ndA (.node (.node ll lk lv lr) k v r)] (ndA (.node ll lk lv (.node lr k v r))) := by
  have hc := h.c
  have hw := h.w
  have p1 := Tr.cn_pos ll
  have p2 := Tr.cn_pos lr
  have p3 := Tr.wt_pos ll
  have p4 := Tr.wt_pos lr
  simp only [Tr.cn, Tr.wt] at hc hw
  have m1 := (Fits.mk (l := lr) (k := k) (v := v) (r := r) (by omega) (by omega)).made
  have m2 := (Fits.mk (l := ll) (k := lk) (v := lv) (r := .node lr k v r) (by simp only [Tr.cn]; omega) (by simp only [Tr.wt]; omega)).made
  refine S_ Tryz.func208 (by kernel_rfl) rfl (Nat.le_of_ble_eq_true rfl) ?_
  show avc Tryz.prog SP _ _ _ _ _ _
  dsimp only [avc, startS, Array.toList, Tryz.f208]
  have hW1 : Av.Mk 31 [0,1,3,7,0,16,48,112,0,256,768,1792,0,4096,12288,28672,0,65536,196608,458752,0,1048576,3145728,7340032,0,16777216,50331648,117440512,268431360,536870911,1073741823] := ⟨⟩
  exact Av.W
theorem level_ok {l r : Tr} {k v : Key} (h : Fits l k v r) : SP 175 [ndA (.node l k v r)] (ndA (Tr.level (.node l k v r))) := by
  have h1 := Tr.hh_pos l
  have h2 := Tr.hh_pos r
  have h3 := Tr.hh_le_cn l
  have h4 := Tr.hh_le_cn r
  have hc := h.c
  have hw := h.w
  have t1 := tall_ok l
  have t2 := tall_ok r
  by_cases d1 : l.hh - r.hh > 1
  · obtain ⟨ll, lk, lv, lr, rfl⟩ := Tr.pos_node (t := l) (by omega)
    have t3 := tall_ok ll
    have t4 := tall_ok lr
    have q1 := Tr.hh_pos ll
    have q2 := Tr.hh_pos lr
    have q3 := Tr.cn_pos ll
    have q4 := Tr.cn_pos lr
    have q5 := Tr.wt_pos ll
    have q6 := Tr.wt_pos lr
    have q7 := Tr.cn_pos r
    have q8 := Tr.wt_pos r
    by_cases d2 : ll.hh < lr.hh
    · obtain ⟨a, b, c, d, rfl⟩ := Tr.pos_node (t := lr) (by omega)
      have e : Tr.level (.node (.node ll lk lv (.node a b c d)) k v r) = .node (.node ll lk lv a) b c (.node d k v r) := (if_pos d1).trans ((if_pos d2).trans rfl)
      rw [e]
      have z1 := Tr.cn_pos a
      have z2 := Tr.cn_pos d
      have z3 := Tr.wt_pos a
      have z4 := Tr.wt_pos d
      have c1 := turnLeft_ok (l := ll) (k := lk) (v := lv) (rl := a) (rk := b) (rv := c) (rr := d) ⟨by simp only [Tr.cn] at hc ⊢; omega, by simp only [Tr.wt] at hw ⊢; omega⟩
      have c2 := (Fits.mk (l := .node (.node ll lk lv a) b c d) (k := k) (v := v) (r := r) (by simp only [Tr.cn] at hc ⊢; omega) (by simp only [Tr.wt] at hw ⊢; omega)).made
      have c3 := turnRight_ok (ll := .node ll lk lv a) (lk := b) (lv := c) (lr := d) (k := k) (v := v) (r := r) ⟨by simp only [Tr.cn] at hc ⊢; omega, by simp only [Tr.wt] at hw ⊢; omega⟩
      refine S_ Tryz.func175 (by kernel_rfl) rfl (Nat.le_of_ble_eq_true rfl) ?_
      show avc Tryz.prog SP _ _ _ _ _ _
      dsimp only [avc, startS, Array.toList, Tryz.f175]
      repeat' ((try conv => whnf) <;> first | refine Av.hm_ ?_ | refine Av.w1 ?_ | refine Av.w2 ?_ | refine Av.w3 ?_ | refine Av.w4 ?_ | refine Av.nle rfl ?_ | refine Av.q1 ?_ | refine Av.q2 ?_ | refine Av.q3 ?_ | refine Av.q4 ?_ | refine Av.inr_ (by omega) (by omega) ?_ | refine ⟨_, t1, ?_⟩ | refine ⟨_, t2, ?_⟩ | refine ⟨_, t3, ?_⟩ | refine ⟨_, t4, ?_⟩ | refine ⟨_, c1, ?_⟩ | refine ⟨_, c2, ?_⟩ | refine ⟨_, c3, ?_⟩ | refine ⟨[], [0,1,3,7,15,31,63,127,0,256,768,1792,3840,7936,16128,32767,65535], Av.len_ok rfl (by kernel_rfl), ?_⟩ | refine ⟨[], [0,1,3,7,15,0,32,96,224,0,512,1536,3584,0,8192,24576,57344,131071,262143], Eq.refl true, ?_⟩ | refine ⟨[], [0,1,3,7,0,16,48,112,0,256,768,1792,0,4096,12288,28672,61440,131071,262143], Eq.refl true, ?_⟩ | refine ⟨[], [0,1,3,7,15,0,32,96,224,511,1023,2047], Av.len_ok rfl (by kernel_rfl), ?_⟩ | exact True.intro | refine Av.eqt_ (by kernel_rfl) ?_ | refine ⟨rfl, ?_⟩ | refine ⟨⟨Nat.le_of_ble_eq_true rfl, rfl⟩, ?_⟩ | refine ⟨⟨rfl, rfl⟩, ?_⟩ | refine ⟨⟨rfl, rfl, rfl⟩, ?_⟩ | exact ⟨rfl, rfl, rfl⟩ | exact ⟨rfl, rfl⟩ | ((first | refine br_lt ?_ ?_ | refine br_lt_ ?_ ?_ | refine br_le ?_ ?_ | refine br_le_ ?_ ?_ | refine br_eq ?_ ?_ | refine br_eq_ ?_ ?_ | refine br_seq ?_ ?_ | refine br_seq_ ?_ ?_) <;> intro hBr <;> first | (exfalso; omega) | (exfalso; contradiction) | (exfalso; exact hBr rfl) | skip) | refine br_not ?_ | refine br_not_ ?_ | refine br_and ?_ | refine br_and_ ?_ | refine Av.asm_ (by omega) ?_ | refine ⟨_, wrap_i64 (by omega), ?_⟩ | refine ⟨_, wrap_u64 (by omega) (by omega), ?_⟩ | refine ⟨_, wrap_u8 (by omega) (by omega), ?_⟩ | refine ⟨_, wrap_u32 (by omega) (by omega), ?_⟩ | refine ⟨_, wrap_u16 (by omega) (by omega), ?_⟩ | refine ⟨_, rfl, ?_⟩ | exact rfl)
    · have e : Tr.level (.node (.node ll lk lv lr) k v r) = .node ll lk lv (.node lr k v r) := (if_pos d1).trans ((if_neg d2).trans rfl)
      rw [e]
      have c3 := turnRight_ok h
      refine S_ Tryz.func175 (by kernel_rfl) rfl (Nat.le_of_ble_eq_true rfl) ?_
      show avc Tryz.prog SP _ _ _ _ _ _
      dsimp only [avc, startS, Array.toList, Tryz.f175]
      repeat' ((try conv => whnf) <;> first | refine Av.hm_ ?_ | refine Av.w1 ?_ | refine Av.w2 ?_ | refine Av.w3 ?_ | refine Av.w4 ?_ | refine Av.nle rfl ?_ | refine Av.q1 ?_ | refine Av.q2 ?_ | refine Av.q3 ?_ | refine Av.q4 ?_ | refine Av.inr_ (by omega) (by omega) ?_ | refine ⟨_, t1, ?_⟩ | refine ⟨_, t2, ?_⟩ | refine ⟨_, t3, ?_⟩ | refine ⟨_, t4, ?_⟩ | refine ⟨_, c3, ?_⟩ | refine ⟨[], [0,1,3,7,15,31,63,127,0,256,768,1792,3840,7936,16128,32767,65535], Av.len_ok rfl (by kernel_rfl), ?_⟩ | refine ⟨[], [0,1,3,7,15,0,32,96,224,0,512,1536,3584,0,8192,24576,57344,131071,262143], Eq.refl true, ?_⟩ | refine ⟨[], [0,1,3,7,0,16,48,112,0,256,768,1792,0,4096,12288,28672,61440,131071,262143], Eq.refl true, ?_⟩ | refine ⟨[], [0,1,3,7,15,0,32,96,224,511,1023,2047], Av.len_ok rfl (by kernel_rfl), ?_⟩ | exact True.intro | refine Av.eqt_ (by kernel_rfl) ?_ | refine ⟨rfl, ?_⟩ | refine ⟨⟨Nat.le_of_ble_eq_true rfl, rfl⟩, ?_⟩ | refine ⟨⟨rfl, rfl⟩, ?_⟩ | refine ⟨⟨rfl, rfl, rfl⟩, ?_⟩ | exact ⟨rfl, rfl, rfl⟩ | exact ⟨rfl, rfl⟩ | ((first | refine br_lt ?_ ?_ | refine br_lt_ ?_ ?_ | refine br_le ?_ ?_ | refine br_le_ ?_ ?_ | refine br_eq ?_ ?_ | refine br_eq_ ?_ ?_ | refine br_seq ?_ ?_ | refine br_seq_ ?_ ?_) <;> intro hBr <;> first | (exfalso; omega) | (exfalso; contradiction) | (exfalso; exact hBr rfl) | skip) | refine br_not ?_ | refine br_not_ ?_ | refine br_and ?_ | refine br_and_ ?_ | refine Av.asm_ (by omega) ?_ | refine ⟨_, wrap_i64 (by omega), ?_⟩ | refine ⟨_, wrap_u64 (by omega) (by omega), ?_⟩ | refine ⟨_, wrap_u8 (by omega) (by omega), ?_⟩ | refine ⟨_, wrap_u32 (by omega) (by omega), ?_⟩ | refine ⟨_, wrap_u16 (by omega) (by omega), ?_⟩ | refine ⟨_, rfl, ?_⟩ | exact rfl)
  · by_cases d3 : l.hh - r.hh < -1
    · obtain ⟨rl, rk, rv, rr, rfl⟩ := Tr.pos_node (t := r) (by omega)
      have t3 := tall_ok rl
      have t4 := tall_ok rr
      have q1 := Tr.hh_pos rl
      have q2 := Tr.hh_pos rr
      have q3 := Tr.cn_pos rl
      have q4 := Tr.cn_pos rr
      have q5 := Tr.wt_pos rl
      have q6 := Tr.wt_pos rr
      have q7 := Tr.cn_pos l
      have q8 := Tr.wt_pos l
      by_cases d2 : rr.hh < rl.hh
      · obtain ⟨a, b, c, d, rfl⟩ := Tr.pos_node (t := rl) (by omega)
        have e : Tr.level (.node l k v (.node (.node a b c d) rk rv rr)) = .node (.node l k v a) b c (.node d rk rv rr) := (if_neg d1).trans ((if_pos d3).trans ((if_pos d2).trans rfl))
        rw [e]
        have z1 := Tr.cn_pos a
        have z2 := Tr.cn_pos d
        have z3 := Tr.wt_pos a
        have z4 := Tr.wt_pos d
        have c1 := turnRight_ok (ll := a) (lk := b) (lv := c) (lr := d) (k := rk) (v := rv) (r := rr) ⟨by simp only [Tr.cn] at hc ⊢; omega, by simp only [Tr.wt] at hw ⊢; omega⟩
        have c2 := (Fits.mk (l := l) (k := k) (v := v) (r := .node a b c (.node d rk rv rr)) (by simp only [Tr.cn] at hc ⊢; omega) (by simp only [Tr.wt] at hw ⊢; omega)).made
        have c3 := turnLeft_ok (l := l) (k := k) (v := v) (rl := a) (rk := b) (rv := c) (rr := .node d rk rv rr) ⟨by simp only [Tr.cn] at hc ⊢; omega, by simp only [Tr.wt] at hw ⊢; omega⟩
        refine S_ Tryz.func175 (by kernel_rfl) rfl (Nat.le_of_ble_eq_true rfl) ?_
        show avc Tryz.prog SP _ _ _ _ _ _
        dsimp only [avc, startS, Array.toList, Tryz.f175]
        repeat' ((try conv => whnf) <;> first | refine Av.hm_ ?_ | refine Av.w1 ?_ | refine Av.w2 ?_ | refine Av.w3 ?_ | refine Av.w4 ?_ | refine Av.nle rfl ?_ | refine Av.q1 ?_ | refine Av.q2 ?_ | refine Av.q3 ?_ | refine Av.q4 ?_ | refine Av.inr_ (by omega) (by omega) ?_ | refine ⟨_, t1, ?_⟩ | refine ⟨_, t2, ?_⟩ | refine ⟨_, t3, ?_⟩ | refine ⟨_, t4, ?_⟩ | refine ⟨_, c1, ?_⟩ | refine ⟨_, c2, ?_⟩ | refine ⟨_, c3, ?_⟩ | refine ⟨[], [0,1,3,7,15,31,63,127,0,256,768,1792,3840,7936,16128,32767,65535], Av.len_ok rfl (by kernel_rfl), ?_⟩ | refine ⟨[], [0,1,3,7,15,0,32,96,224,0,512,1536,3584,0,8192,24576,57344,131071,262143], Eq.refl true, ?_⟩ | refine ⟨[], [0,1,3,7,0,16,48,112,0,256,768,1792,0,4096,12288,28672,61440,131071,262143], Eq.refl true, ?_⟩ | refine ⟨[], [0,1,3,7,15,0,32,96,224,511,1023,2047], Av.len_ok rfl (by kernel_rfl), ?_⟩ | exact True.intro | refine Av.eqt_ (by kernel_rfl) ?_ | refine ⟨rfl, ?_⟩ | refine ⟨⟨Nat.le_of_ble_eq_true rfl, rfl⟩, ?_⟩ | refine ⟨⟨rfl, rfl⟩, ?_⟩ | refine ⟨⟨rfl, rfl, rfl⟩, ?_⟩ | exact ⟨rfl, rfl, rfl⟩ | exact ⟨rfl, rfl⟩ | ((first | refine br_lt ?_ ?_ | refine br_lt_ ?_ ?_ | refine br_le ?_ ?_ | refine br_le_ ?_ ?_ | refine br_eq ?_ ?_ | refine br_eq_ ?_ ?_ | refine br_seq ?_ ?_ | refine br_seq_ ?_ ?_) <;> intro hBr <;> first | (exfalso; omega) | (exfalso; contradiction) | (exfalso; exact hBr rfl) | skip) | refine br_not ?_ | refine br_not_ ?_ | refine br_and ?_ | refine br_and_ ?_ | refine Av.asm_ (by omega) ?_ | refine ⟨_, wrap_i64 (by omega), ?_⟩ | refine ⟨_, wrap_u64 (by omega) (by omega), ?_⟩ | refine ⟨_, wrap_u8 (by omega) (by omega), ?_⟩ | refine ⟨_, wrap_u32 (by omega) (by omega), ?_⟩ | refine ⟨_, wrap_u16 (by omega) (by omega), ?_⟩ | refine ⟨_, rfl, ?_⟩ | exact rfl)
      · have e : Tr.level (.node l k v (.node rl rk rv rr)) = .node (.node l k v rl) rk rv rr := (if_neg d1).trans ((if_pos d3).trans ((if_neg d2).trans rfl))
        rw [e]
        have c3 := turnLeft_ok h
        refine S_ Tryz.func175 (by kernel_rfl) rfl (Nat.le_of_ble_eq_true rfl) ?_
        show avc Tryz.prog SP _ _ _ _ _ _
        dsimp only [avc, startS, Array.toList, Tryz.f175]
        repeat' ((try conv => whnf) <;> first | refine Av.hm_ ?_ | refine Av.w1 ?_ | refine Av.w2 ?_ | refine Av.w3 ?_ | refine Av.w4 ?_ | refine Av.nle rfl ?_ | refine Av.q1 ?_ | refine Av.q2 ?_ | refine Av.q3 ?_ | refine Av.q4 ?_ | refine Av.inr_ (by omega) (by omega) ?_ | refine ⟨_, t1, ?_⟩ | refine ⟨_, t2, ?_⟩ | refine ⟨_, t3, ?_⟩ | refine ⟨_, t4, ?_⟩ | refine ⟨_, c3, ?_⟩ | refine ⟨[], [0,1,3,7,15,31,63,127,0,256,768,1792,3840,7936,16128,32767,65535], Av.len_ok rfl (by kernel_rfl), ?_⟩ | refine ⟨[], [0,1,3,7,15,0,32,96,224,0,512,1536,3584,0,8192,24576,57344,131071,262143], Eq.refl true, ?_⟩ | refine ⟨[], [0,1,3,7,0,16,48,112,0,256,768,1792,0,4096,12288,28672,61440,131071,262143], Eq.refl true, ?_⟩ | refine ⟨[], [0,1,3,7,15,0,32,96,224,511,1023,2047], Av.len_ok rfl (by kernel_rfl), ?_⟩ | exact True.intro | refine Av.eqt_ (by kernel_rfl) ?_ | refine ⟨rfl, ?_⟩ | refine ⟨⟨Nat.le_of_ble_eq_true rfl, rfl⟩, ?_⟩ | refine ⟨⟨rfl, rfl⟩, ?_⟩ | refine ⟨⟨rfl, rfl, rfl⟩, ?_⟩ | exact ⟨rfl, rfl, rfl⟩ | exact ⟨rfl, rfl⟩ | ((first | refine br_lt ?_ ?_ | refine br_lt_ ?_ ?_ | refine br_le ?_ ?_ | refine br_le_ ?_ ?_ | refine br_eq ?_ ?_ | refine br_eq_ ?_ ?_ | refine br_seq ?_ ?_ | refine br_seq_ ?_ ?_) <;> intro hBr <;> first | (exfalso; omega) | (exfalso; contradiction) | (exfalso; exact hBr rfl) | skip) | refine br_not ?_ | refine br_not_ ?_ | refine br_and ?_ | refine br_and_ ?_ | refine Av.asm_ (by omega) ?_ | refine ⟨_, wrap_i64 (by omega), ?_⟩ | refine ⟨_, wrap_u64 (by omega) (by omega), ?_⟩ | refine ⟨_, wrap_u8 (by omega) (by omega), ?_⟩ | refine ⟨_, wrap_u32 (by omega) (by omega), ?_⟩ | refine ⟨_, wrap_u16 (by omega) (by omega), ?_⟩ | refine ⟨_, rfl, ?_⟩ | exact rfl)
    · have e : Tr.level (.node l k v r) = .node l k v r := (if_neg d1).trans (if_neg d3)
      rw [e]
      refine S_ Tryz.func175 (by kernel_rfl) rfl (Nat.le_of_ble_eq_true rfl) ?_
      show avc Tryz.prog SP _ _ _ _ _ _
      dsimp only [avc, startS, Array.toList, Tryz.f175]
      repeat' ((try conv => whnf) <;> first | refine Av.hm_ ?_ | refine Av.w1 ?_ | refine Av.w2 ?_ | refine Av.w3 ?_ | refine Av.w4 ?_ | refine Av.nle rfl ?_ | refine Av.q1 ?_ | refine Av.q2 ?_ | refine Av.q3 ?_ | refine Av.q4 ?_ | refine Av.inr_ (by omega) (by omega) ?_ | refine ⟨_, t1, ?_⟩ | refine ⟨_, t2, ?_⟩ | refine ⟨[], [0,1,3,7,15,31,63,127,0,256,768,1792,3840,7936,16128,32767,65535], Av.len_ok rfl (by kernel_rfl), ?_⟩ | refine ⟨[], [0,1,3,7,15,0,32,96,224,0,512,1536,3584,0,8192,24576,57344,131071,262143], Eq.refl true, ?_⟩ | refine ⟨[], [0,1,3,7,0,16,48,112,0,256,768,1792,0,4096,12288,28672,61440,131071,262143], Eq.refl true, ?_⟩ | refine ⟨[], [0,1,3,7,15,0,32,96,224,511,1023,2047], Av.len_ok rfl (by kernel_rfl), ?_⟩ | exact True.intro | refine Av.eqt_ (by kernel_rfl) ?_ | refine ⟨rfl, ?_⟩ | refine ⟨⟨Nat.le_of_ble_eq_true rfl, rfl⟩, ?_⟩ | refine ⟨⟨rfl, rfl⟩, ?_⟩ | refine ⟨⟨rfl, rfl, rfl⟩, ?_⟩ | exact ⟨rfl, rfl, rfl⟩ | exact ⟨rfl, rfl⟩ | ((first | refine br_lt ?_ ?_ | refine br_lt_ ?_ ?_ | refine br_le ?_ ?_ | refine br_le_ ?_ ?_ | refine br_eq ?_ ?_ | refine br_eq_ ?_ ?_ | refine br_seq ?_ ?_ | refine br_seq_ ?_ ?_) <;> intro hBr <;> first | (exfalso; omega) | (exfalso; contradiction) | (exfalso; exact hBr rfl) | skip) | refine br_not ?_ | refine br_not_ ?_ | refine br_and ?_ | refine br_and_ ?_ | refine Av.asm_ (by omega) ?_ | refine ⟨_, wrap_i64 (by omega), ?_⟩ | refine ⟨_, wrap_u64 (by omega) (by omega), ?_⟩ | refine ⟨_, wrap_u8 (by omega) (by omega), ?_⟩ | refine ⟨_, wrap_u32 (by omega) (by omega), ?_⟩ | refine ⟨_, wrap_u16 (by omega) (by omega), ?_⟩ | refine ⟨_, rfl, ?_⟩ | exact rfl)
end Go.Proofs.YtbaedepmogkkeaaGreat.Av
