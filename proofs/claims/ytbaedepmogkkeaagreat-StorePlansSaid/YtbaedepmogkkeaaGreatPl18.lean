/- What the claim stands on, Pl18: contracts of functions and plain facts. No conditions. -/
import Derived.Test.YtbaedepmogkkeaaGreatPl17
namespace Go.Proofs.YtbaedepmogkkeaaGreat.Av
set_option maxHeartbeats 1000000
open Go Go.RowKit Tre
set_option linter.unusedVariables false
set_option linter.unusedSimpArgs false
set_option maxRecDepth 100000
abbrev ltB (a b : Key) : Bool := Op.bytesLess (bs a).toList (bs b).toList
theorem ltB_eq (a b : Key) : ltB a b = lt a b := by show Op.bytesLess _ _ = _; rw [bsl_, bsl_]; rfl
abbrev gtB (a b : Key) : Bool := !(Op.bytesLess (bs a).toList (bs b).toList || ((bs a).toList == (bs b).toList))
theorem gtB_eq (a b : Key) : gtB a b = lt b a := by
 show (!(Op.bytesLess _ _ || _)) = _
 rw [bsl_, bsl_]
 show (!(lt a b || (a == b))) = _
 cases h : lt a b with
 | true => rw [lt_asymm h]; rfl
 | false =>
  by_cases e : a = b
  ·subst e; rw [lt_irr]; simp
  ·cases h2 : lt b a with
   | true => simp [e]
   | false => exact absurd (lt_tri h h2) e
theorem nan_ok (a : Key) : SP 193 [T a] (B false) := by
 have h : (!((bs a).toList == (bs a).toList)) = false := by simp
 rw [← h]
 refine S_ Tryz.func193 (by kernel_rfl) rfl (Nat.le_of_ble_eq_true rfl) ?_
 show avc Tryz.prog SP _ _ _ _ _ _
 dsimp only [avc, startS, Array.toList, Tryz.f193]
 exact Av.W
theorem cmp_lt {a b : Key} (h : lt a b = true) : SP 144 [T a, T b] (Z (-1)) := by
 have n1 := nan_ok a
 have n2 := nan_ok b
 have h1 : ltB a b = true := by rw [ltB_eq]; exact h
 refine S_ Tryz.func144 (by kernel_rfl) rfl (Nat.le_of_ble_eq_true rfl) ?_
 show avc Tryz.prog SP _ _ _ _ _ _
 dsimp only [avc, startS, Array.toList, Tryz.f144]
 exact Av.W
theorem cmp_gt {a b : Key} (h : lt b a = true) : SP 144 [T a, T b] (Z 1) := by
 have n1 := nan_ok a
 have n2 := nan_ok b
 have h1 : ltB a b = false := by rw [ltB_eq]; exact lt_asymm h
 have h2 : gtB a b = true := by rw [gtB_eq]; exact h
 refine S_ Tryz.func144 (by kernel_rfl) rfl (Nat.le_of_ble_eq_true rfl) ?_
 show avc Tryz.prog SP _ _ _ _ _ _
 dsimp only [avc, startS, Array.toList, Tryz.f144]
 exact Av.W
theorem cmp_eq (a : Key) : SP 144 [T a, T a] (Z 0) := by
 have n1 := nan_ok a
 have h1 : ltB a a = false := by rw [ltB_eq]; exact lt_irr a
 have h2 : gtB a a = false := by rw [gtB_eq]; exact lt_irr a
 refine S_ Tryz.func144 (by kernel_rfl) rfl (Nat.le_of_ble_eq_true rfl) ?_
 show avc Tryz.prog SP _ _ _ _ _ _
 dsimp only [avc, startS, Array.toList, Tryz.f144]
 exact Av.W
theorem made_nil {k v : Key} (hk : k.length ≤ 1000000000) (hv : v.length ≤ 1000000000) : SP 174 [.ex (.pointer none), T k, T v, .ex (.pointer none)] (ndA (.node .nil k v .nil)) := by
 refine Sound.weak (made_ok (l := .nil) (r := .nil) (k := k) (v := v) (by decide) (by decide) hk hv) rfl fun w F j h1 h2 x hx => ?_
 match j, h1 with
 | 0, _ => have := hx.ex_inv; subst this; exact .pt0 _ _
 | 1, _ => exact hx
 | 2, _ => exact hx
 | 3, _ => have := hx.ex_inv; subst this; exact .pt0 _ _
structure More (t : Tr) (k v : Key) : Prop where
 c : t.cn + 1 ≤ 1000000000
 w : t.wt + 4 + (k.length : Int) + (v.length : Int) ≤ 1000000000
theorem put_ok {key val : Key} : ∀ (t : Tr), More t key val → SP 123 [ndA t, T key, T val] (ndA (Tr.put key val t))
 | .nil, h => by
  have hw := h.w
  simp only [Tr.wt] at hw
  have m := made_nil (k := key) (v := val) (by omega) (by omega)
  refine S_ Tryz.func123 (by kernel_rfl) rfl (Nat.le_of_ble_eq_true rfl) ?_
  show avc Tryz.prog SP _ _ _ _ _ _
  dsimp only [avc, startS, Array.toList, Tryz.f123]
  repeat' ((try conv => whnf) <;> first | refine Av.Va ?_ | refine ⟨_, m, ?_⟩ | refine ⟨[], [0,1,3,7,0,0,63,0,128,384,896,0,2048,6144,14336,0,32768,98304,229376,524287,1048575,2097151], Eq.refl true, ?_⟩ | refine ⟨[], [0,1,3,7,0,16,48,112,0,256,768,1792,0,4096,12288,28672,0,0,258048,524287,1048575,2097151], Eq.refl true, ?_⟩ | refine ⟨[], [0,1,3,7,0,0,0,64,192,448,1023,2047], Av.len_ok rfl (by kernel_rfl), ?_⟩ | exact True.intro | refine Av.Vb ?_ | exact ⟨rfl, rfl, rfl⟩ | exact ⟨rfl, rfl⟩ | (refine Av.Vc ?_ ?_ <;> intro hBr <;> first | (exfalso; omega) | (exfalso; contradiction) | (exfalso; exact hBr rfl) | skip) | refine Av.Vd ?_ | exact rfl)
 | .node l k v r, h => by
  have hc := h.c
  have hw := h.w
  simp only [Tr.cn, Tr.wt] at hc hw
  have c1 := Tr.cn_pos l
  have c2 := Tr.cn_pos r
  have w1 := Tr.wt_pos l
  have w2 := Tr.wt_pos r
  by_cases h1 : lt key k = true
  ·have s := Tr.put_sizes (k := key) (v := val) (t := l)
   have cm := cmp_lt h1
   have ih := put_ok (key := key) (val := val) l ⟨by omega, by omega⟩
   have e : Tr.put key val (.node l k v r) = Tr.level (.node (Tr.put key val l) k v r) := if_pos h1
   have f : Fits (Tr.put key val l) k v r := ⟨by omega, by omega⟩
   have m := f.made
   have lv := level_ok f
   rw [e]
   refine S_ Tryz.func123 (by kernel_rfl) rfl (Nat.le_of_ble_eq_true rfl) ?_
   show avc Tryz.prog SP _ _ _ _ _ _
   dsimp only [avc, startS, Array.toList, Tryz.f123]
   repeat' ((try conv => whnf) <;> first | refine Av.Va ?_ | refine ⟨_, cm, ?_⟩ | refine ⟨_, ih, ?_⟩ | refine ⟨_, m, ?_⟩ | refine ⟨_, lv, ?_⟩ | refine ⟨[], [0,1,3,7,0,0,63,0,128,384,896,0,2048,6144,14336,0,32768,98304,229376,524287,1048575,2097151], Eq.refl true, ?_⟩ | refine ⟨[], [0,1,3,7,0,16,48,112,0,256,768,1792,0,4096,12288,28672,0,0,258048,524287,1048575,2097151], Eq.refl true, ?_⟩ | refine ⟨[], [0,1,3,7,0,0,0,64,192,448,1023,2047], Av.len_ok rfl (by kernel_rfl), ?_⟩ | exact True.intro | refine Av.Vb ?_ | exact ⟨rfl, rfl, rfl⟩ | exact ⟨rfl, rfl⟩ | (refine Av.Vc ?_ ?_ <;> intro hBr <;> first | (exfalso; omega) | (exfalso; contradiction) | (exfalso; exact hBr rfl) | skip) | refine Av.Vd ?_ | exact rfl)
  ·by_cases h2 : lt k key = true
   ·have s := Tr.put_sizes (k := key) (v := val) (t := r)
    have cm := cmp_gt h2
    have ih := put_ok (key := key) (val := val) r ⟨by omega, by omega⟩
    have e : Tr.put key val (.node l k v r) = Tr.level (.node l k v (Tr.put key val r)) := (if_neg h1).trans (if_pos h2)
    have f : Fits l k v (Tr.put key val r) := ⟨by omega, by omega⟩
    have m := f.made
    have lv := level_ok f
    rw [e]
    refine S_ Tryz.func123 (by kernel_rfl) rfl (Nat.le_of_ble_eq_true rfl) ?_
    show avc Tryz.prog SP _ _ _ _ _ _
    dsimp only [avc, startS, Array.toList, Tryz.f123]
    repeat' ((try conv => whnf) <;> first | refine Av.Va ?_ | refine ⟨_, cm, ?_⟩ | refine ⟨_, ih, ?_⟩ | refine ⟨_, m, ?_⟩ | refine ⟨_, lv, ?_⟩ | refine ⟨[], [0,1,3,7,0,0,63,0,128,384,896,0,2048,6144,14336,0,32768,98304,229376,524287,1048575,2097151], Eq.refl true, ?_⟩ | refine ⟨[], [0,1,3,7,0,16,48,112,0,256,768,1792,0,4096,12288,28672,0,0,258048,524287,1048575,2097151], Eq.refl true, ?_⟩ | refine ⟨[], [0,1,3,7,0,0,0,64,192,448,1023,2047], Av.len_ok rfl (by kernel_rfl), ?_⟩ | exact True.intro | refine Av.Vb ?_ | exact ⟨rfl, rfl, rfl⟩ | exact ⟨rfl, rfl⟩ | (refine Av.Vc ?_ ?_ <;> intro hBr <;> first | (exfalso; omega) | (exfalso; contradiction) | (exfalso; exact hBr rfl) | skip) | refine Av.Vd ?_ | exact rfl)
   ·have ek : key = k := lt_tri (by simpa using h1) (by simpa using h2)
    subst ek
    have e : Tr.put key val (.node l key v r) = .node l key val r := (if_neg h1).trans (if_neg h2)
    have cm := cmp_eq key
    have m := (Fits.mk (l := l) (k := key) (v := val) (r := r) (by omega) (by omega)).made
    rw [e]
    refine S_ Tryz.func123 (by kernel_rfl) rfl (Nat.le_of_ble_eq_true rfl) ?_
    show avc Tryz.prog SP _ _ _ _ _ _
    dsimp only [avc, startS, Array.toList, Tryz.f123]
    repeat' ((try conv => whnf) <;> first | refine Av.Va ?_ | refine ⟨_, cm, ?_⟩ | refine ⟨_, m, ?_⟩ | refine ⟨[], [0,1,3,7,0,0,63,0,128,384,896,0,2048,6144,14336,0,32768,98304,229376,524287,1048575,2097151], Eq.refl true, ?_⟩ | refine ⟨[], [0,1,3,7,0,16,48,112,0,256,768,1792,0,4096,12288,28672,0,0,258048,524287,1048575,2097151], Eq.refl true, ?_⟩ | refine ⟨[], [0,1,3,7,0,0,0,64,192,448,1023,2047], Av.len_ok rfl (by kernel_rfl), ?_⟩ | exact True.intro | refine Av.Vb ?_ | exact ⟨rfl, rfl, rfl⟩ | exact ⟨rfl, rfl⟩ | (refine Av.Vc ?_ ?_ <;> intro hBr <;> first | (exfalso; omega) | (exfalso; contradiction) | (exfalso; exact hBr rfl) | skip) | refine Av.Vd ?_ | exact rfl)
theorem join_left {ll lr r : Tr} {lk lv k v : Key} (h : (Tr.node ll lk lv lr).hh > r.hh + 1) : Tr.join (.node ll lk lv lr) k v r = Tr.level (.node ll lk lv (Tr.join lr k v r)) := by
 rw [Tr.join.eq_def]
 cases r with
 | nil => exact if_pos h
 | node a b c d => exact if_pos h
theorem join_right {l rl rr : Tr} {rk rv k v : Key} (h1 : ¬ l.hh > (Tr.node rl rk rv rr).hh + 1) (h : (Tr.node rl rk rv rr).hh > l.hh + 1) : Tr.join l k v (.node rl rk rv rr) = Tr.level (.node (Tr.join l k v rl) rk rv rr) := by
 rw [Tr.join.eq_def]
 cases l with
 | nil => exact if_pos h
 | node a b c d => exact (if_neg h1).trans (if_pos h)
theorem join_mid {l r : Tr} {k v : Key} (h1 : ¬ l.hh > r.hh + 1) (h2 : ¬ r.hh > l.hh + 1) : Tr.join l k v r = .node l k v r := by
 rw [Tr.join.eq_def]
 cases l with
 | nil =>
  cases r with
  | nil => rfl
  | node a b c d => exact if_neg h2
 | node a b c d =>
  cases r with
  | nil => exact if_neg h1
  | node e f g i => exact (if_neg h1).trans (if_neg h2)
theorem join_ok {k v : Key} : ∀ (n : Nat) (l r : Tr), l.sz + r.sz ≤ n → Fits l k v r → l.cn + r.cn ≤ 900000000 → l.wt + r.wt + (k.length : Int) + (v.length : Int) ≤ 900000000 → SP 204 [ndA l, T k, T v, ndA r] (ndA (Tr.join l k v r))
 | n, l, r, hn, h, hc, hw => by
  have t1 := tall_ok l
  have t2 := tall_ok r
  have h1 := Tr.hh_pos l
  have h2 := Tr.hh_pos r
  have h3 := Tr.hh_le_cn l
  have h4 := Tr.hh_le_cn r
  have c1 := Tr.cn_pos l
  have c2 := Tr.cn_pos r
  have w1 := Tr.wt_pos l
  have w2 := Tr.wt_pos r
  by_cases d1 : l.hh > r.hh + 1
  ·obtain ⟨ll, lk, lv, lr, rfl⟩ := Tr.pos_node (t := l) (by omega)
   have q1 := Tr.cn_pos ll
   have q2 := Tr.cn_pos lr
   have q3 := Tr.wt_pos ll
   have q4 := Tr.wt_pos lr
   rw [join_left d1]
   have hc0 := hc
   simp only [Tr.cn, Tr.wt] at hc hw
   cases n with
   | zero => simp [Tr.sz] at hn
   | succ n =>
    have ih := join_ok (k := k) (v := v) n lr r (by simp [Tr.sz] at hn ⊢; omega) ⟨by omega, by omega⟩ (by omega) (by omega)
    have f : Fits ll lk lv (Tr.join lr k v r) := ⟨by rw [Tr.cn_join]; omega, by rw [Tr.wt_join]; omega⟩
    have m := f.made
    have lw := level_ok f
    refine S_ Tryz.func204 (by kernel_rfl) rfl (Nat.le_of_ble_eq_true rfl) ?_
    show avc Tryz.prog SP _ _ _ _ _ _
    dsimp only [avc, startS, Array.toList, Tryz.f204]
    repeat' ((try conv => whnf) <;> first | refine Av.Va ?_ | refine ⟨_, t1, ?_⟩ | refine ⟨_, t2, ?_⟩ | refine ⟨_, ih, ?_⟩ | refine ⟨_, m, ?_⟩ | refine ⟨_, lw, ?_⟩ | refine ⟨[], [0,1,3,7,0,16,48,112,0,256,768,1792,0,4096,12288,28672,0,0,0,520192,1048575,2097151,4194303], Eq.refl true, ?_⟩ | refine ⟨[], [0,0,0,0,8,24,56,127,0,256,768,1792,0,4096,12288,28672,0,65536,196608,458752,1048575,2097151,4194303], Eq.refl true, ?_⟩ | exact True.intro | refine Av.Vb ?_ | exact ⟨rfl, rfl, rfl⟩ | exact ⟨rfl, rfl⟩ | (refine Av.Vc ?_ ?_ <;> intro hBr <;> first | (exfalso; omega) | (exfalso; contradiction) | (exfalso; exact hBr rfl) | skip) | refine Av.Vd ?_ | exact rfl)
  ·by_cases d2 : r.hh > l.hh + 1
   ·obtain ⟨rl, rk, rv, rr, rfl⟩ := Tr.pos_node (t := r) (by omega)
    have q1 := Tr.cn_pos rl
    have q2 := Tr.cn_pos rr
    have q3 := Tr.wt_pos rl
    have q4 := Tr.wt_pos rr
    rw [join_right d1 d2]
    have hc0 := hc
    simp only [Tr.cn, Tr.wt] at hc hw
    cases n with
    | zero => simp [Tr.sz] at hn
    | succ n =>
     have ih := join_ok (k := k) (v := v) n l rl (by simp [Tr.sz] at hn ⊢; omega) ⟨by omega, by omega⟩ (by omega) (by omega)
     have f : Fits (Tr.join l k v rl) rk rv rr := ⟨by rw [Tr.cn_join]; omega, by rw [Tr.wt_join]; omega⟩
     have m := f.made
     have lw := level_ok f
     refine S_ Tryz.func204 (by kernel_rfl) rfl (Nat.le_of_ble_eq_true rfl) ?_
     show avc Tryz.prog SP _ _ _ _ _ _
     dsimp only [avc, startS, Array.toList, Tryz.f204]
     repeat' ((try conv => whnf) <;> first | refine Av.Va ?_ | refine ⟨_, t1, ?_⟩ | refine ⟨_, t2, ?_⟩ | refine ⟨_, ih, ?_⟩ | refine ⟨_, m, ?_⟩ | refine ⟨_, lw, ?_⟩ | refine ⟨[], [0,1,3,7,0,16,48,112,0,256,768,1792,0,4096,12288,28672,0,0,0,520192,1048575,2097151,4194303], Eq.refl true, ?_⟩ | refine ⟨[], [0,0,0,0,8,24,56,127,0,256,768,1792,0,4096,12288,28672,0,65536,196608,458752,1048575,2097151,4194303], Eq.refl true, ?_⟩ | exact True.intro | refine Av.Vb ?_ | exact ⟨rfl, rfl, rfl⟩ | exact ⟨rfl, rfl⟩ | (refine Av.Vc ?_ ?_ <;> intro hBr <;> first | (exfalso; omega) | (exfalso; contradiction) | (exfalso; exact hBr rfl) | skip) | refine Av.Vd ?_ | exact rfl)
   ·rw [join_mid d1 d2]
    have m := h.made
    refine S_ Tryz.func204 (by kernel_rfl) rfl (Nat.le_of_ble_eq_true rfl) ?_
    show avc Tryz.prog SP _ _ _ _ _ _
    dsimp only [avc, startS, Array.toList, Tryz.f204]
    repeat' ((try conv => whnf) <;> first | refine Av.Va ?_ | refine ⟨_, t1, ?_⟩ | refine ⟨_, t2, ?_⟩ | refine ⟨_, m, ?_⟩ | refine ⟨[], [0,1,3,7,0,16,48,112,0,256,768,1792,0,4096,12288,28672,0,0,0,520192,1048575,2097151,4194303], Eq.refl true, ?_⟩ | refine ⟨[], [0,0,0,0,8,24,56,127,0,256,768,1792,0,4096,12288,28672,0,65536,196608,458752,1048575,2097151,4194303], Eq.refl true, ?_⟩ | exact True.intro | refine Av.Vb ?_ | exact ⟨rfl, rfl, rfl⟩ | exact ⟨rfl, rfl⟩ | (refine Av.Vc ?_ ?_ <;> intro hBr <;> first | (exfalso; omega) | (exfalso; contradiction) | (exfalso; exact hBr rfl) | skip) | refine Av.Vd ?_ | exact rfl)
structure Big (t : Tr) : Prop where
 c : t.cn ≤ 400000000
 w : t.wt ≤ 400000000
theorem join_yes {l r : Tr} {k v : Key} (hc : l.cn + r.cn ≤ 400000000) (hw : l.wt + r.wt + (k.length : Int) + (v.length : Int) ≤ 400000000) : SP 204 [ndA l, T k, T v, ndA r] (ndA (Tr.join l k v r)) :=
 join_ok _ l r (Nat.le_refl _) ⟨by omega, by omega⟩ (by omega) (by omega)
theorem first_ok : ∀ (t : Tr), t ≠ .nil → Big t → SP 165 [ndA t] (.tup [T (Tr.first t).1, T (Tr.first t).2.1, ndA (Tr.first t).2.2])
 | .nil, h, _ => absurd rfl h
 | .node .nil k v r, _, _ => by
  refine S_ Tryz.func165 (by kernel_rfl) rfl (Nat.le_of_ble_eq_true rfl) ?_
  show avc Tryz.prog SP _ _ _ _ _ _
  dsimp only [avc, startS, Array.toList, Tryz.f165]
  have hW0 : Av.Mk 15 [0,1,3,7,0,16,48,112,0,256,768,1792,15,4351,16383] := ⟨⟩
  have hW1 : Av.Mk 20 [0,0,0,0,8,24,56,0,128,384,896,0,2048,6144,14336,32764,65532,131069,262143,524287] := ⟨⟩
  exact Av.W
 | .node (.node a b c d) k v r, _, h => by
  have hc := h.c
  have hw := h.w
  have c2 := Tr.cn_pos r
  have w2 := Tr.wt_pos r
  have w3 := Tr.wt_pos (.node a b c d)
  have c3 := Tr.cn_pos (.node a b c d)
  rw [Tr.cn] at hc
  rw [Tr.wt] at hw
  have ih := first_ok (.node a b c d) (by simp) ⟨by omega, by omega⟩
  have s := Tr.first_sizes (t := .node a b c d) (by simp)
  have f : Fits (Tr.first (.node a b c d)).2.2 k v r := ⟨by omega, by omega⟩
  have m := f.made
  have lw := level_ok f
  show SP _ _ (.tup [T (Tr.first (.node a b c d)).1, T (Tr.first (.node a b c d)).2.1, ndA (Tr.level (.node (Tr.first (.node a b c d)).2.2 k v r))])
  refine S_ Tryz.func165 (by kernel_rfl) rfl (Nat.le_of_ble_eq_true rfl) ?_
  show avc Tryz.prog SP _ _ _ _ _ _
  dsimp only [avc, startS, Array.toList, Tryz.f165]
  have hW2 : Av.Mk 15 [0,1,3,7,0,16,48,112,0,256,768,1792,15,4351,16383] := ⟨⟩
  have hW3 : Av.Mk 20 [0,0,0,0,8,24,56,0,128,384,896,0,2048,6144,14336,32764,65532,131069,262143,524287] := ⟨⟩
  exact Av.W
theorem both_ok {l r : Tr} (h1 : Big l) (h2 : Big r) (hc : l.cn + r.cn ≤ 400000000) (hw : l.wt + r.wt ≤ 400000000) : SP 166 [ndA l, ndA r] (ndA (Tr.both l r)) := by
 cases r with
 | nil =>
  refine S_ Tryz.func166 (by kernel_rfl) rfl (Nat.le_of_ble_eq_true rfl) ?_
  show avc Tryz.prog SP _ _ _ _ _ _
  dsimp only [avc, startS, Array.toList, Tryz.f166]
  exact Av.W
 | node a b c d =>
  have f := first_ok (.node a b c d) (by simp) h2
  have s := Tr.first_sizes (t := .node a b c d) (by simp)
  have j := join_yes (l := l) (r := (Tr.first (.node a b c d)).2.2) (k := (Tr.first (.node a b c d)).1) (v := (Tr.first (.node a b c d)).2.1) (by omega) (by omega)
  show SP _ _ (ndA (Tr.join l (Tr.first (.node a b c d)).1 (Tr.first (.node a b c d)).2.1 (Tr.first (.node a b c d)).2.2))
  refine S_ Tryz.func166 (by kernel_rfl) rfl (Nat.le_of_ble_eq_true rfl) ?_
  show avc Tryz.prog SP _ _ _ _ _ _
  dsimp only [avc, startS, Array.toList, Tryz.f166]
  exact Av.W
theorem split_ok {key : Key} : ∀ (t : Tr), Big t → SP 164 [ndA t, T key] (.tup [ndA (Tr.split key t).1, ndA (Tr.split key t).2])
 | .nil, _ => by
  refine S_ Tryz.func164 (by kernel_rfl) rfl (Nat.le_of_ble_eq_true rfl) ?_
  show avc Tryz.prog SP _ _ _ _ _ _
  dsimp only [avc, startS, Array.toList, Tryz.f164]
  repeat' ((try conv => whnf) <;> first | refine Av.Va ?_ | refine ⟨[], [0,0,0,4,12,28,0,64,192,448,0,1024,3072,7168,16382,32767,65535], Eq.refl true, ?_⟩ | refine ⟨[], [0,1,3,7,0,16,48,112,0,256,768,1792,0,8191,0,16383,65535], Eq.refl true, ?_⟩ | exact True.intro | refine Av.Vb ?_ | exact ⟨rfl, rfl, rfl⟩ | exact ⟨rfl, rfl⟩ | (refine Av.Vc ?_ ?_ <;> intro hBr <;> first | (exfalso; omega) | (exfalso; contradiction) | (exfalso; exact hBr rfl) | skip) | refine Av.Vd ?_ | exact rfl)
 | .node l k v r, h => by
  have hc := h.c
  have hw := h.w
  simp only [Tr.cn, Tr.wt] at hc hw
  have c1 := Tr.cn_pos l
  have c2 := Tr.cn_pos r
  have w1 := Tr.wt_pos l
  have w2 := Tr.wt_pos r
  by_cases h1 : lt k key = true
  ·have b1 : ltB k key = true := by rw [ltB_eq]; exact h1
   have ih := split_ok (key := key) r ⟨by omega, by omega⟩
   have s := Tr.split_sizes (key := key) (t := r)
   have p1 := Tr.cn_pos (Tr.split key r).2
   have p2 := Tr.wt_pos (Tr.split key r).2
   have j := join_yes (l := l) (r := (Tr.split key r).1) (k := k) (v := v) (by omega) (by omega)
   have e : Tr.split key (.node l k v r) = (Tr.join l k v (Tr.split key r).1, (Tr.split key r).2) := if_pos h1
   rw [e]
   refine S_ Tryz.func164 (by kernel_rfl) rfl (Nat.le_of_ble_eq_true rfl) ?_
   show avc Tryz.prog SP _ _ _ _ _ _
   dsimp only [avc, startS, Array.toList, Tryz.f164]
   repeat' ((try conv => whnf) <;> first | refine Av.Va ?_ | (refine br_t b1 ?_) | refine ⟨_, ih, ?_⟩ | refine ⟨_, j, ?_⟩ | refine ⟨[], [0,0,0,4,12,28,0,64,192,448,0,1024,3072,7168,16382,32767,65535], Eq.refl true, ?_⟩ | refine ⟨[], [0,1,3,7,0,16,48,112,0,256,768,1792,0,8191,0,16383,65535], Eq.refl true, ?_⟩ | exact True.intro | refine Av.Vb ?_ | exact ⟨rfl, rfl, rfl⟩ | exact ⟨rfl, rfl⟩ | (refine Av.Vc ?_ ?_ <;> intro hBr <;> first | (exfalso; omega) | (exfalso; contradiction) | (exfalso; exact hBr rfl) | skip) | refine Av.Vd ?_ | exact rfl)
  ·have b1 : ltB k key = false := by rw [ltB_eq]; simpa using h1
   have ih := split_ok (key := key) l ⟨by omega, by omega⟩
   have s := Tr.split_sizes (key := key) (t := l)
   have p1 := Tr.cn_pos (Tr.split key l).1
   have p2 := Tr.wt_pos (Tr.split key l).1
   have j := join_yes (l := (Tr.split key l).2) (r := r) (k := k) (v := v) (by omega) (by omega)
   have e : Tr.split key (.node l k v r) = ((Tr.split key l).1, Tr.join (Tr.split key l).2 k v r) := if_neg h1
   rw [e]
   refine S_ Tryz.func164 (by kernel_rfl) rfl (Nat.le_of_ble_eq_true rfl) ?_
   show avc Tryz.prog SP _ _ _ _ _ _
   dsimp only [avc, startS, Array.toList, Tryz.f164]
   repeat' ((try conv => whnf) <;> first | refine Av.Va ?_ | (refine br_f b1 ?_) | refine ⟨_, ih, ?_⟩ | refine ⟨_, j, ?_⟩ | refine ⟨[], [0,0,0,4,12,28,0,64,192,448,0,1024,3072,7168,16382,32767,65535], Eq.refl true, ?_⟩ | refine ⟨[], [0,1,3,7,0,16,48,112,0,256,768,1792,0,8191,0,16383,65535], Eq.refl true, ?_⟩ | exact True.intro | refine Av.Vb ?_ | exact ⟨rfl, rfl, rfl⟩ | exact ⟨rfl, rfl⟩ | (refine Av.Vc ?_ ?_ <;> intro hBr <;> first | (exfalso; omega) | (exfalso; contradiction) | (exfalso; exact hBr rfl) | skip) | refine Av.Vd ?_ | exact rfl)
def muN : AV → Nat
 | .pt true (_ :: _ :: _ :: _ :: _ :: .ex (.int _ c) :: _) => c.toNat
 | _ => 0
theorem muN_nd (s : Tr) : muN (ndA s) = s.cn.toNat := by cases s <;> rfl
def muV : List AV → List ABlk → Nat
 | a :: _, _ => muN a
 | [], _ => 0
theorem mu_left {l r : Tr} {k v : Key} (x : List AV) (y : List AV) (b c : List ABlk) : muV (ndA l :: x) b < muV (ndA (.node l k v r) :: y) c := by
 show muN (ndA l) < muN (ndA (.node l k v r))
 have h1 := Tr.cn_pos l
 have h2 := Tr.cn_pos r
 rw [muN_nd, muN_nd]; simp only [Tr.cn]; omega
theorem mu_right {l r : Tr} {k v : Key} (x : List AV) (y : List AV) (b c : List ABlk) : muV (ndA r :: x) b < muV (ndA (.node l k v r) :: y) c := by
 show muN (ndA r) < muN (ndA (.node l k v r))
 have h1 := Tr.cn_pos l
 have h2 := Tr.cn_pos r
 rw [muN_nd, muN_nd]; simp only [Tr.cn]; omega
theorem len_ok_ (t : Tr) : SP 38 [trA t] (Z t.cn) := by
 have c := count_nd t
 refine S_ Tryz.func38 (by kernel_rfl) rfl (Nat.le_of_ble_eq_true rfl) ?_
 show avc Tryz.prog SP _ _ _ _ _ _
 dsimp only [avc, startS, Array.toList, Tryz.f38]
 exact Av.W
theorem bytes_ok (t : Tr) : SP 78 [trA t] (Z t.wt) := by
 have c := weight_nd t
 refine S_ Tryz.func78 (by kernel_rfl) rfl (Nat.le_of_ble_eq_true rfl) ?_
 show avc Tryz.prog SP _ _ _ _ _ _
 dsimp only [avc, startS, Array.toList, Tryz.f78]
 exact Av.W
def optR : Option Key → AV
 | some v => .tup [T v, B true]
 | none => .tup [T [], B false]
theorem get_ok (t : Tr) (key : Key) (res : Option Key) (hres : Tr.get key t = res) : SP 89 [trA t, T key] (optR res) := by
 refine S_ Tryz.func89 (by kernel_rfl) rfl (Nat.le_of_ble_eq_true rfl) ?_
 show avc Tryz.prog SP _ _ _ _ _ _
 dsimp only [avc, startS, Array.toList, Tryz.f89]
 refine Av.Wk ?_
 refine ⟨[6, 1], [], fun vs bl => ∃ s : Tr, Tr.get key s = res ∧ (vs = [ndA s, T key] ∧ bl = []), muV, ?_, ?_⟩
 ·exact ⟨t, hres, rfl, rfl⟩
 rintro vs bl ⟨s, hs, rfl, rfl⟩
 cases s with
 | nil =>
  have : res = none := hs.symm
  subst this
  clear hres hs
  exact Av.W
 | node l k v r =>
  by_cases h1 : lt key k = true
  ·have e : Tr.get key (.node l k v r) = Tr.get key l := if_pos h1
   rw [e] at hs
   have cm := cmp_lt h1
   clear hres
   refine Av.Wk ?_
   exact ⟨⟨l, hs, rfl, rfl⟩, mu_left _ _ _ _⟩
  ·by_cases h2 : lt k key = true
   ·have e : Tr.get key (.node l k v r) = Tr.get key r := (if_neg h1).trans (if_pos h2)
    rw [e] at hs
    have cm := cmp_gt h2
    clear hres
    refine Av.Wk ?_
    exact ⟨⟨r, hs, rfl, rfl⟩, mu_right _ _ _ _⟩
   ·have ek : key = k := lt_tri (by simpa using h1) (by simpa using h2)
    subst ek
    have e : Tr.get key (.node l key v r) = some v := (if_neg h1).trans (if_neg h2)
    have : res = some v := hs.symm.trans e
    subst this
    have cm := cmp_eq key
    clear hres hs e
    exact Av.W
theorem rank_ok (t : Tr) (key : Key) (ht : t.cn ≤ 1000000000) (res : Int) (hres : Tr.rank key t = res) : SP 171 [trA t, T key] (Z res) := by
 have c0 := Tr.cn_pos t
 refine S_ Tryz.func171 (by kernel_rfl) rfl (Nat.le_of_ble_eq_true rfl) ?_
 show avc Tryz.prog SP _ _ _ _ _ _
 dsimp only [avc, startS, Array.toList, Tryz.f171]
 refine Av.Wk ?_
 refine ⟨[6, 5, 1], [], fun vs bl => ∃ (s : Tr) (a : Int), a + Tr.rank key s = res ∧ 0 ≤ a ∧ a + s.cn ≤ 1000000000 ∧ (vs = [ndA s, Z a, T key] ∧ bl = []), muV, ?_, ?_⟩
 ·exact ⟨t, 0, by omega, by omega, by omega, rfl, rfl⟩
 rintro vs bl ⟨s, a, hs, ha, hb, rfl, rfl⟩
 cases s with
 | nil =>
  have : res = a := by rw [← hs]; show a + 0 = a; omega
  subst this
  clear hres hs
  exact Av.W
 | node l k v r =>
  have c1 := Tr.cn_pos l
  have c2 := Tr.cn_pos r
  have cl := count_nd l
  have hb2 : a + (1 + l.cn + r.cn) ≤ 1000000000 := hb
  by_cases h1 : lt k key = true
  ·have e : Tr.rank key (.node l k v r) = 1 + l.cn + Tr.rank key r := if_pos h1
   rw [e] at hs
   have b1 : ltB k key = true := by rw [ltB_eq]; exact h1
   clear hres
   refine Av.Wk ?_
   exact ⟨⟨r, a + (1 + l.cn), by omega, by omega, by omega, rfl, rfl⟩, mu_right _ _ _ _⟩
  ·have e : Tr.rank key (.node l k v r) = Tr.rank key l := if_neg h1
   rw [e] at hs
   have b1 : ltB k key = false := by rw [ltB_eq]; simpa using h1
   clear hres
   refine Av.Wk ?_
   exact ⟨⟨l, a, by omega, by omega, by omega, rfl, rfl⟩, mu_left _ _ _ _⟩
def pairR : Option Pr → AV
 | some p => .tup [T p.1, T p.2, B true]
 | none => .tup [T [], T [], B false]
theorem at_pos (t : Tr) (i : Int) (h : 0 ≤ i) (ht : t.cn ≤ 1000000000) (hi : i ≤ 9223372036854775807) (res : Option Pr) (hres : Tr.at_ t i = res) : SP 172 [trA t, Z i] (pairR res) := by
 refine S_ Tryz.func172 (by kernel_rfl) rfl (Nat.le_of_ble_eq_true rfl) ?_
 show avc Tryz.prog SP _ _ _ _ _ _
 dsimp only [avc, startS, Array.toList, Tryz.f172]
 have hW1 : Av.Mk 11 [0,1,3,7,0,16,48,112,15,511,1023] := ⟨⟩
 refine Av.Wk ?_
 refine ⟨[7, 1], [], fun vs bl => ∃ (s : Tr) (a : Int), Tr.at_ s a = res ∧ 0 ≤ a ∧ a ≤ 9223372036854775807 ∧ s.cn ≤ 1000000000 ∧ (vs = [ndA s, Z a] ∧ bl = []), muV, ?_, ?_⟩
 ·exact ⟨t, i, hres, h, hi, ht, rfl, rfl⟩
 rintro vs bl ⟨s, a, hs, ha, hb, hc, rfl, rfl⟩
 cases s with
 | nil =>
  have : res = none := hs.symm
  subst this
  clear hres hs
  have hW2 : Av.Mk 11 [0,1,3,7,0,16,48,112,15,511,1023] := ⟨⟩
  exact Av.W
 | node l k v r =>
  have c1 := Tr.cn_pos l
  have c2 := Tr.cn_pos r
  have cl := count_nd l
  have hc2 : 1 + l.cn + r.cn ≤ 1000000000 := hc
  by_cases h1 : a < l.cn
  ·have e : Tr.at_ (.node l k v r) a = Tr.at_ l a := if_pos h1
   rw [e] at hs
   clear hres
   have hW3 : Av.Mk 11 [0,1,3,7,0,16,48,112,15,511,1023] := ⟨⟩
   refine Av.Wk ?_
   exact ⟨⟨l, a, hs, by omega, by omega, by omega, rfl, rfl⟩, mu_left _ _ _ _⟩
  ·by_cases h2 : a > l.cn
   ·have e : Tr.at_ (.node l k v r) a = Tr.at_ r (a - (l.cn + 1)) := (if_neg h1).trans (if_pos h2)
    rw [e] at hs
    clear hres
    have hW4 : Av.Mk 11 [0,1,3,7,0,16,48,112,15,511,1023] := ⟨⟩
    refine Av.Wk ?_
    exact ⟨⟨r, a - (l.cn + 1), hs, by omega, by omega, by omega, rfl, rfl⟩, mu_right _ _ _ _⟩
   ·have e : Tr.at_ (.node l k v r) a = some (k, v) := (if_neg h1).trans (if_neg h2)
    have : res = some (k, v) := hs.symm.trans e
    subst this
    clear hres hs e
    have hW5 : Av.Mk 11 [0,1,3,7,0,16,48,112,15,511,1023] := ⟨⟩
    exact Av.W
/-! ### texts -/
theorem begins_take {p x : Key} (h : p.length ≤ x.length) : (x.take p.length == p) = begins p x := by
 unfold begins
 rw [Bool.eq_iff_iff, List.isPrefixOf_iff_prefix, List.prefix_iff_eq_take, beq_iff_eq]
 exact eq_comm
theorem prefix1_ok (x p : Key) (hx : x.length ≤ 9223372036854775807) (hp : p.length ≤ 9223372036854775807) : SP 205 [T x, T p] (B (begins p x)) := by
 have s1 := bs_size x
 have s2 := bs_size p
 by_cases h : p.length ≤ x.length
 ·have e : (((bs x).extract (0 : Int).toNat ((bs p).size : Int).toNat).toList == (bs p).toList) = begins p x := by
   rw [bs_cut, bsl_, bsl_, ← begins_take h, bs_size]
   simp
  rw [← e]
  refine S_ Tryz.func205 (by kernel_rfl) rfl (Nat.le_of_ble_eq_true rfl) ?_
  show avc Tryz.prog SP _ _ _ _ _ _
  dsimp only [avc, startS, Array.toList, Tryz.f205]
  exact Av.W
 ·have e : begins p x = false := by
   unfold begins
   rw [Bool.eq_false_iff]
   intro hb
   have := (List.isPrefixOf_iff_prefix.1 hb).length_le
   omega
  rw [e]
  refine S_ Tryz.func205 (by kernel_rfl) rfl (Nat.le_of_ble_eq_true rfl) ?_
  show avc Tryz.prog SP _ _ _ _ _ _
  dsimp only [avc, startS, Array.toList, Tryz.f205]
  exact Av.W
theorem prefix_ok (x p : Key) (hx : x.length ≤ 9223372036854775807) (hp : p.length ≤ 9223372036854775807) : SP 173 [T x, T p] (B (begins p x)) := by
 have h := prefix1_ok x p hx hp
 refine S_ Tryz.func173 (by kernel_rfl) rfl (Nat.le_of_ble_eq_true rfl) ?_
 show avc Tryz.prog SP _ _ _ _ _ _
 dsimp only [avc, startS, Array.toList, Tryz.f173]
 exact Av.W
theorem beyond_ok (p : Key) (hp : p.length ≤ 1000000000) (res : Option Key) (hres : beyond p = res) : SP 167 [T p] (optR res) := by
 have s1 := bs_size p
 refine S_ Tryz.func167 (by kernel_rfl) rfl (Nat.le_of_ble_eq_true rfl) ?_
 show avc Tryz.prog SP _ _ _ _ _ _
 dsimp only [avc, startS, Array.toList, Tryz.f167]
 have hW6 : Av.Mk 12 [0,0,3,0,0,24,56,120,248,511,1023,2047] := ⟨⟩
 refine Av.Wk ?_
 refine ⟨[4, 0], [], fun vs bl => ∃ (a : Int), -1 ≤ a ∧ a < (p.length : Int) ∧ (∀ j (h : j < p.length), a < (j : Int) → ¬ (p[j]).toNat < 255) ∧ (vs = [Z a, T p] ∧ bl = []), fun vs bl => match vs with | .ex (.int _ a) :: _ => (a + 1).toNat | _ => 0, ?_, ?_⟩
 ·exact ⟨((bs p).size : Int) - 1, by omega, by omega, fun j h hj => by omega, rfl, rfl⟩
 rintro vs bl ⟨a, h1, h2, h3, rfl, rfl⟩
 by_cases h0 : 0 ≤ a
 ·obtain ⟨i, rfl⟩ : ∃ i : Nat, a = i := ⟨a.toNat, by omega⟩
  have hi : i < p.length := by omega
  have hb : (bs p)[((i : Int)).toNat]? = some p[i] := by
   rw [Int.toNat_natCast, getElem?_pos (bs p) i (by rw [bs_size]; exact hi)]; rfl
  by_cases h4 : (p[i]).toNat < 255
  ·have e := beyond_some hi h4 (fun j hj hij => h3 j hj (by omega))
   rw [hres] at e
   subst e
   clear hres h3
   have h4i : ((p[i]).toNat : Int) < 255 := by omega
   have hz : IntKind.u8.wrap (((p[i]).toNat : Int) + 1) = (((p[i] + 1).toNat : Nat) : Int) := by
    rw [wrap_u8 (by omega) (by omega), UInt8.toNat_add]
    simp; omega
   have hadd : (bs p).extract (0 : Int).toNat ((i : Int)).toNat ++ (ByteArray.mk [p[i] + 1].toArray) = bs (p.take i ++ [p[i] + 1]) := by
    rw [show ByteArray.mk [p[i] + 1].toArray = bs [p[i] + 1] from rfl, bs_cut, bs_add]
    simp
   have hsz : ((bs p).extract (0 : Int).toNat ((i : Int)).toNat).size + (ByteArray.mk [p[i] + 1].toArray).size ≤ 9223372036854775807 := by
    rw [show ByteArray.mk [p[i] + 1].toArray = bs [p[i] + 1] from rfl, bs_cut, bs_size, bs_size, List.length_take]
    simp; omega
   repeat' ((try conv => whnf) <;> first | refine Av.Va ?_ | (refine ⟨p[i], ⟨by omega, hb⟩, ?_⟩) | (refine ⟨_, hz, ?_⟩) | (refine ⟨false, ?_⟩) | (refine ⟨[p[i] + 1], ⟨rfl, rfl⟩, ?_⟩) | (refine And.intro hsz ?_) | refine ⟨[], [0,0,3,0,0,24,56,120,248,511,1023,2047], Av.len_ok rfl (by kernel_rfl), ?_⟩ | exact True.intro | refine Av.Vb ?_ | exact ⟨rfl, rfl, rfl⟩ | exact ⟨rfl, rfl⟩ | (refine Av.Vc ?_ ?_ <;> intro hBr <;> first | (exfalso; omega) | (exfalso; contradiction) | (exfalso; exact hBr rfl) | skip) | refine Av.Vd ?_ | exact rfl)
   exact ⟨congrArg (fun s => AV.ex (.string s)) hadd, rfl, trivial⟩
  ·clear hres
   repeat' ((try conv => whnf) <;> first | refine Av.Va ?_ | (refine ⟨_, ⟨by omega, hb⟩, ?_⟩) | refine ⟨[], [0,0,3,0,0,24,56,120,248,511,1023,2047], Av.len_ok rfl (by kernel_rfl), ?_⟩ | exact True.intro | refine Av.Vb ?_ | exact ⟨rfl, rfl, rfl⟩ | exact ⟨rfl, rfl⟩ | (refine Av.Vc ?_ ?_ <;> intro hBr <;> first | (exfalso; omega) | (exfalso; contradiction) | (exfalso; exact hBr rfl) | skip) | refine Av.Vd ?_ | exact rfl)
   exact ⟨⟨(i : Int) - 1, by omega, by omega, fun j hj hij => by
    by_cases e : j = i
    ·subst e; exact h4
    ·exact h3 j hj (by omega), rfl, rfl⟩, (by show ((i : Int) - 1 + 1).toNat < ((i : Int) + 1).toNat; omega)⟩
 ·have e := beyond_none (p := p) (fun j hj => h3 j hj (by omega))
  rw [hres] at e
  subst e
  clear hres
  have hW7 : Av.Mk 12 [0,0,3,0,0,24,56,120,248,511,1023,2047] := ⟨⟩
  exact Av.W
theorem tput_ok {t : Tr} {k v : Key} (h : More t k v) : SP 60 [trA t, T k, T v] (trA (Tr.put k v t)) := by
 have c := put_ok t h
 refine S_ Tryz.func60 (by kernel_rfl) rfl (Nat.le_of_ble_eq_true rfl) ?_
 show avc Tryz.prog SP _ _ _ _ _ _
 dsimp only [avc, startS, Array.toList, Tryz.f60]
 exact Av.W
theorem tdel_ok {t : Tr} {k : Key} (h : Big t) (hg : Srt t.toL) : SP 118 [trA t, T k] (trA (Tr.del k t)) := by
 have c := get_ok t k _ rfl
 unfold Tr.del
 cases hq : Tr.get k t with
 | none =>
  rw [hq] at c
  refine S_ Tryz.func118 (by kernel_rfl) rfl (Nat.le_of_ble_eq_true rfl) ?_
  show avc Tryz.prog SP _ _ _ _ _ _
  dsimp only [avc, startS, Array.toList, Tryz.f118]
  exact Av.W
 | some v =>
  rw [hq] at c
  have s := split_ok (key := k) t h
  have z := Tr.split_sizes (key := k) (t := t)
  have hc := h.c
  have hw := h.w
  have p1 := Tr.cn_pos (Tr.split k t).1
  have p2 := Tr.wt_pos (Tr.split k t).1
  have p3 := Tr.cn_pos (Tr.split k t).2
  have p4 := Tr.wt_pos (Tr.split k t).2
  have hne : (Tr.split k t).2 ≠ .nil := fun e => by
   obtain ⟨s1, s2, s3⟩ := Tr.split_toL (key := k) hg
   rw [Tr.get_toL hg] at hq
   have hm := getL_mem hq
   rw [← s1, e] at hm
   have := s2 _ (by simpa [Tr.toL] using hm)
   rw [lt_irr] at this; cases this
  have f := first_ok _ hne ⟨by omega, by omega⟩
  have fz := Tr.first_sizes hne
  have b := both_ok (l := (Tr.split k t).1) (r := (Tr.first (Tr.split k t).2).2.2) ⟨by omega, by omega⟩ ⟨by omega, by omega⟩ (by omega) (by omega)
  show SP _ _ (trA (Tr.both (Tr.split k t).1 (Tr.first (Tr.split k t).2).2.2))
  refine S_ Tryz.func118 (by kernel_rfl) rfl (Nat.le_of_ble_eq_true rfl) ?_
  show avc Tryz.prog SP _ _ _ _ _ _
  dsimp only [avc, startS, Array.toList, Tryz.f118]
  exact Av.W
theorem tdrop_ok {t : Tr} {p : Key} (h : Big t) (hp : p.length ≤ 1000000000) : SP 119 [trA t, T p] (trA (Tr.drop p t)) := by
 have c := beyond_ok p hp _ rfl
 have s := split_ok (key := p) t h
 have z := Tr.split_sizes (key := p) (t := t)
 have hc := h.c
 have hw := h.w
 have p1 := Tr.cn_pos (Tr.split p t).1
 have p2 := Tr.wt_pos (Tr.split p t).1
 have p3 := Tr.cn_pos (Tr.split p t).2
 have p4 := Tr.wt_pos (Tr.split p t).2
 unfold Tr.drop
 cases hq : beyond p with
 | none =>
  rw [hq] at c
  refine S_ Tryz.func119 (by kernel_rfl) rfl (Nat.le_of_ble_eq_true rfl) ?_
  show avc Tryz.prog SP _ _ _ _ _ _
  dsimp only [avc, startS, Array.toList, Tryz.f119]
  exact Av.W
 | some e =>
  rw [hq] at c
  have s2 := split_ok (key := e) (Tr.split p t).2 ⟨by omega, by omega⟩
  have z2 := Tr.split_sizes (key := e) (t := (Tr.split p t).2)
  have q1 := Tr.cn_pos (Tr.split e (Tr.split p t).2).1
  have q2 := Tr.wt_pos (Tr.split e (Tr.split p t).2).1
  have b := both_ok (l := (Tr.split p t).1) (r := (Tr.split e (Tr.split p t).2).2) ⟨by omega, by omega⟩ ⟨by omega, by omega⟩ (by omega) (by omega)
  show SP _ _ (trA (Tr.both (Tr.split p t).1 (Tr.split e (Tr.split p t).2).2))
  refine S_ Tryz.func119 (by kernel_rfl) rfl (Nat.le_of_ble_eq_true rfl) ?_
  show avc Tryz.prog SP _ _ _ _ _ _
  dsimp only [avc, startS, Array.toList, Tryz.f119]
  exact Av.W
/-! ### ops -/
def opC (os : List OpP) : List AV := os.flatMap fun o => [.ex (.int .u8 o.1), T o.2.1, T o.2.2]
theorem opC_len (os : List OpP) : (opC os).length = os.length * 3 := by
 induction os with
 | nil => rfl
 | cons o os ih => simp only [opC, List.flatMap_cons, List.length_append, List.length_cons, List.length_nil] at ih ⊢; omega
theorem opC_at {os : List OpP} {i : Nat} (h : i < os.length) : ∀ j v, ([.ex (.int .u8 (os[i]).1), T (os[i]).2.1, T (os[i]).2.2] : List AV)[j]? = some v → (opC os)[i * 3 + j]? = some v := by
 induction os generalizing i with
 | nil => simp at h
 | cons o os ih =>
  intro j v hv
  have e : opC (o :: os) = [.ex (.int .u8 o.1), T o.2.1, T o.2.2] ++ opC os := rfl
  cases i with
  | zero =>
   simp only [List.getElem_cons_zero] at hv
   have hj := (List.getElem?_eq_some_iff.1 hv).1
   rw [e, Nat.zero_mul, Nat.zero_add, List.getElem?_append_left hj]
   exact hv
  | succ i =>
   have := ih (i := i) (by simpa using h) j v (by simpa using hv)
   rw [e, List.getElem?_append_right (by simp; omega)]
   rw [← this]
   congr 1
   simp; omega
theorem hsO : sizeT Tryz.prog 82 = 3 := by kernel_rfl
theorem opW {os : List OpP} {i : Nat} (h : i < os.length) : ([.ex (.int .u8 (os[i]).1), T (os[i]).2.1, T (os[i]).2.2] : List AV).length = sizeT Tryz.prog 82 ∧ ∀ j v, ([.ex (.int .u8 (os[i]).1), T (os[i]).2.1, T (os[i]).2.2] : List AV)[j]? = some v → (opC os)[mulS (i : Int).toNat (sizeT Tryz.prog 82) + j]? = some v := by
 rw [hsO, mulS_eq, Int.toNat_natCast]
 exact ⟨rfl, opC_at h⟩
def OpsOk (t : Tr) (os : List OpP) : Prop := t.cn + (os.length : Int) ≤ 100000000 ∧ (∀ o ∈ os, o.2.1.length ≤ 1000000 ∧ o.2.2.length ≤ 1000000) ∧ t.wt + (os.length : Int) * 2000004 ≤ 300000000
theorem step_sizes {t : Tr} (h : Tr.Good t) (o : OpP) : (t.step o).cn ≤ t.cn + 1 ∧ (t.step o).wt ≤ t.wt + 4 + (o.2.1.length : Int) + (o.2.2.length : Int) := by
 obtain ⟨h1, h2⟩ := h.step o
 have := stepL_len o t.toL
 rw [Tr.cn_len, Tr.cn_len, Tr.wt_len, Tr.wt_len, h2]
 omega
theorem OpsOk.step {t : Tr} {o : OpP} {os : List OpP} (hg : Tr.Good t) (h : OpsOk t (o :: os)) : OpsOk (t.step o) os := by
 obtain ⟨h1, h2, h3⟩ := h
 have s := step_sizes hg o
 have := h2 o (by simp)
 simp only [List.length_cons, Int.natCast_add] at h1 h3
 refine ⟨by omega, fun x hx => h2 x (List.mem_cons_of_mem _ hx), ?_⟩
 have e : ((os.length : Int) + ((1 : Nat) : Int)) * 2000004 = (os.length : Int) * 2000004 + 2000004 := by omega
 omega
theorem apply_drop (os : List OpP) (i : Nat) (h : i < os.length) (t : Tr) : Tr.apply (os.drop i) t = Tr.apply (os.drop (i + 1)) (t.step os[i]) := by
 rw [List.drop_eq_getElem_cons h]; rfl
theorem tapply_ok {t : Tr} {os : List OpP} (hg : Tr.Good t) (h : OpsOk t os) (res : Tr) (hres : Tr.apply os t = res) : SP 54 [trA t, .vs os.length (opC os)] (trA res) := by
 have hlen : (os.length : Int) ≤ 100000000 := by have := Tr.cn_pos t; have := h.1; omega
 refine S_ Tryz.func54 (by kernel_rfl) rfl (Nat.le_of_ble_eq_true rfl) ?_
 show avc Tryz.prog SP _ _ _ _ _ _
 dsimp only [avc, startS, Array.toList, Tryz.f54]
 refine Av.Wk ?_
 refine ⟨[9, 7, 8, 2, 4], [], fun vs bl => ∃ (s : Tr) (i : Nat), i ≤ os.length ∧ Tr.Good s ∧ OpsOk s (os.drop i) ∧ Tr.apply (os.drop i) s = res ∧ (vs = [Z i, .vs os.length (opC os), Z os.length, .ptr 0 0, .ptr 1 0] ∧ bl = [⟨[ndA s], none, false, true⟩, ⟨[.ex (.pointer none)], none, false, true⟩]), fun vs bl => match vs with | .ex (.int _ i) :: _ => os.length - i.toNat | _ => 0, ?_, ?_⟩
 ·exact ⟨t, 0, by omega, hg, by rw [List.drop_zero]; exact h, by rw [List.drop_zero]; exact hres, rfl, rfl⟩
 rintro vs bl ⟨s, i, hi, hs, ho, hr, rfl, rfl⟩
 by_cases hlt : i < os.length
 ·have hw := opW hlt
  have hr2 := hr
  rw [apply_drop os i hlt s] at hr2
  have ho2 := ho
  rw [List.drop_eq_getElem_cons hlt] at ho2
  have ho3 := ho2.step hs
  have hs3 := (hs.step os[i]).1
  have hz := ho2.2.1 os[i] List.mem_cons_self
  have hsz1 := ho2.1
  have hsz2 := ho2.2.2
  have q1 := Tr.cn_pos s
  have q2 := Tr.wt_pos s
  simp only [List.length_cons, Int.natCast_add] at hsz1 hsz2
  have hdec : os.length - ((i : Int) + 1).toNat < os.length - (i : Int).toNat := by omega
  clear hres hr ho ho2
  obtain ⟨o, hoe⟩ : ∃ o, o = os[i] := ⟨_, rfl⟩
  rw [← hoe] at hw hr2 ho3 hs3 hz
  by_cases k1 : o.1 = 1
  ·have e : s.step o = Tr.put o.2.1 o.2.2 s := if_pos k1
   rw [e] at hr2 ho3 hs3
   have c := tput_ok (t := s) (k := o.2.1) (v := o.2.2) ⟨by omega, by omega⟩
   rw [k1] at hw
   refine Av.Wk ?_
   exact ⟨⟨_, i + 1, by omega, hs3, ho3, hr2, rfl, rfl⟩, hdec⟩
  ·by_cases k2 : o.1 = 2
   ·have e : s.step o = Tr.del o.2.1 s := (if_neg k1).trans (if_pos k2)
    rw [e] at hr2 ho3 hs3
    have c := tdel_ok (t := s) (k := o.2.1) ⟨by omega, by omega⟩ hs.srt
    rw [k2] at hw
    refine Av.Wk ?_
    exact ⟨⟨_, i + 1, by omega, hs3, ho3, hr2, rfl, rfl⟩, hdec⟩
   ·by_cases k3 : o.1 = 3
    ·have e : s.step o = Tr.drop o.2.1 s := (if_neg k1).trans ((if_neg k2).trans (if_pos k3))
     rw [e] at hr2 ho3 hs3
     have c := tdrop_ok (t := s) (p := o.2.1) ⟨by omega, by omega⟩ (by omega)
     rw [k3] at hw
     refine Av.Wk ?_
     exact ⟨⟨_, i + 1, by omega, hs3, ho3, hr2, rfl, rfl⟩, hdec⟩
    ·have e : s.step o = s := (if_neg k1).trans ((if_neg k2).trans (if_neg k3))
     rw [e] at hr2 ho3 hs3
     refine Av.Wk ?_
     exact ⟨⟨_, i + 1, by omega, hs3, ho3, hr2, rfl, rfl⟩, hdec⟩
 ·have hie : i = os.length := by omega
  subst hie
  rw [List.drop_length] at hr
  have : res = s := hr.symm
  subst this
  clear hres hr ho
  exact Av.W
end Go.Proofs.YtbaedepmogkkeaaGreat.Av
